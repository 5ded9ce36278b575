/- Contracts of functions, joined. No claim is stated here. -/
import Derived.Test.YtnamnpbkiibadaaFb0
import Derived.Test.YtnamnpbkiibadaaFa2
/- The program's shortest recurrence: its walk. No claim is stated here. -/
set_option linter.unusedVariables false
set_option linter.unusedSimpArgs false
namespace Go.Proofs.Ytnamnpbkiibadaa.Cl
open Go
def Bm (l : List Int) : Prop := ∀ x ∈ l, 0 ≤ x ∧ x < MD
theorem Bm.at {l : List Int} (b : Bm l) (i : Nat) : 0 ≤ l.getD i 0 ∧ l.getD i 0 < MD := by
  rw [List.getD_eq_getElem?_getD]
  cases h : l[i]? with
  | none => exact ⟨by decide, by decide⟩
  | some x => exact b x (List.mem_of_getElem? h)
theorem Bm.nil : Bm [] := fun x h => by cases h
theorem Bm.zeros (n : Nat) : Bm (List.replicate n 0) := fun x h => by rw [List.eq_of_mem_replicate h]; exact ⟨by decide, by decide⟩
theorem ext_getD {l m : List Int} (hl : l.length = m.length) (h : ∀ i, i < l.length → l.getD i 0 = m.getD i 0) : l = m := by
  refine List.ext_getElem hl fun i h1 h2 => ?_
  have := h i h1
  rw [List.getD_eq_getElem?_getD, List.getD_eq_getElem?_getD, List.getElem?_eq_getElem h1, List.getElem?_eq_getElem h2] at this
  exact this
theorem faultK_bd {a r : List Int} (ha : Bm a) (i : Nat) : ∀ k, 0 ≤ faultK a r i k ∧ faultK a r i k < MD
  | 0 => by unfold faultK; exact ha.at i
  | k + 1 => by unfold faultK; rw [foldl_succ]; exact emodMD _
theorem faultK_succ (a r : List Int) (i k : Nat) : faultK a r i (k + 1) = (faultK a r i k - r.getD k 0 * a.getD (i - k - 1) 0) % MD := by unfold faultK; rw [foldl_succ]
theorem changeI_bm (since : Nat) {fac : Int} (hf : 0 ≤ fac ∧ fac < MD) (b : List Int) : Bm (changeI since fac b) := fun x h => by
  unfold changeI at h
  rcases List.mem_append.1 h with h | h
  · exact Bm.zeros _ x h
  · rcases List.mem_cons.1 h with rfl | h
    · exact hf
    · obtain ⟨y, _, rfl⟩ := List.mem_map.1 h; exact emodMD _
def addK (now ch : List Int) (n : Nat) : List Int := (List.range (max now.length n)).map fun k => if k < n then (now.getD k 0 + ch.getD k 0) % MD else now.getD k 0
theorem addK_len (now ch : List Int) (n : Nat) : (addK now ch n).length = max now.length n := by unfold addK; simp
theorem addK_at {now ch : List Int} {n k : Nat} (h : k < max now.length n) : (addK now ch n).getD k 0 = if k < n then (now.getD k 0 + ch.getD k 0) % MD else now.getD k 0 := by unfold addK; exact getD_map h
theorem addK_zero (now ch : List Int) : addK now ch 0 = now := ext_getD (by rw [addK_len]; omega) fun i hi => by
  rw [addK_len] at hi
  rw [addK_at hi, if_neg (by omega)]
theorem addK_all (now ch : List Int) : addK now ch ch.length = addI now ch := rfl
theorem getD_setI {l : List Int} {i : Nat} {x : Int} (hi : i < l.length) (j : Nat) : (l.set i x).getD j 0 = if i = j then x else l.getD j 0 := by
  rw [List.getD_eq_getElem?_getD, List.getElem?_set]
  by_cases h : i = j
  · rw [if_pos h, if_pos (by omega), if_pos h]; rfl
  · rw [if_neg h, if_neg h, List.getD_eq_getElem?_getD]
theorem addK_in {now ch : List Int} {k : Nat} (h : k < now.length) : (addK now ch k).set k (((addK now ch k).getD k 0 + ch.getD k 0) % MD) = addK now ch (k + 1) :=
  ext_getD (by rw [List.length_set, addK_len, addK_len]; omega) fun i hi => by
    rw [List.length_set, addK_len] at hi
    rw [getD_setI (by rw [addK_len]; omega)]
    by_cases e : k = i
    · subst e
      rw [if_pos rfl, addK_at (n := k) (k := k) (by omega), addK_at (n := k + 1) (k := k) (by omega), if_neg (by omega), if_pos (by omega)]
    · rw [if_neg e, addK_at (n := k) (k := i) (by omega), addK_at (n := k + 1) (k := i) (by omega)]
      by_cases h2 : i < k
      · rw [if_pos h2, if_pos (by omega)]
      · rw [if_neg h2, if_neg (by omega)]
theorem addK_out {now ch : List Int} {k : Nat} (h : now.length ≤ k) : (addK now ch k ++ [0]).set k (((addK now ch k ++ [0]).getD k 0 + ch.getD k 0) % MD) = addK now ch (k + 1) := by
  have hl := addK_len now ch k
  have h0 : (addK now ch k ++ [0]).getD k 0 = 0 := by rw [List.getD_eq_getElem?_getD, List.getElem?_append_right (by omega), show k - (addK now ch k).length = 0 by omega]; rfl
  refine ext_getD (by rw [List.length_set, List.length_append, hl, addK_len]; simp; omega) fun i hi => ?_
  rw [List.length_set, List.length_append, hl] at hi
  simp only [List.length_singleton] at hi
  rw [getD_setI (by rw [List.length_append, hl]; simp; omega), addK_at (n := k + 1) (k := i) (by omega), h0]
  by_cases e : k = i
  · subst e
    rw [if_pos rfl, if_pos (by omega), getD_big h]
  · rw [if_neg e, if_pos (by omega), List.getD_eq_getElem?_getD, List.getElem?_append_left (by omega), ← List.getD_eq_getElem?_getD, addK_at (by omega), if_pos (by omega)]
theorem addI_bm {now ch : List Int} (hn : Bm now) : Bm (addI now ch) := fun x h => by
  unfold addI at h
  obtain ⟨k, _, rfl⟩ := List.mem_map.1 h
  split
  · exact emodMD _
  · exact hn.at k
structure SIok (n : Nat) (s : SI) : Prop where
  ln : s.now.length ≤ n
  sn : s.since ≤ n
  nb : Bm s.now
  bb : Bm s.before
  wr : 0 ≤ s.wrong ∧ s.wrong < MD
  room : 0 < s.now.length → s.before.length + s.since + 1 ≤ n
theorem si_step {a : List Int} (ha : Bm a) {n : Nat} {s : SI} (h : SIok n s) : SIok (n + 1) (stepI a n s) := by
  have hf := faultK_bd (r := s.now) ha n s.now.length
  have hl := h.ln
  have hs := h.sn
  unfold stepI
  split
  · exact ⟨by show s.now.length ≤ n + 1; omega, by show s.since + 1 ≤ n + 1; omega, h.nb, h.bb, h.wr, fun q => by have := h.room q; show s.before.length + (s.since + 1) + 1 ≤ n + 1; omega⟩
  · split
    · exact ⟨by simp, by simp, Bm.zeros _, Bm.nil, hf, fun _ => by simp⟩
    · next q1 q2 =>
      have hr := h.room (by omega)
      have hfac : 0 ≤ faultI a s.now n * invM s.wrong % MD ∧ faultI a s.now n * invM s.wrong % MD < MD := emodMD _
      have hal := addI_len s.now (changeI s.since (faultI a s.now n * invM s.wrong % MD) s.before)
      have hcl := change_len s.since (faultI a s.now n * invM s.wrong % MD) s.before
      split
      · refine ⟨?_, by show 0 ≤ n + 1; omega, addI_bm h.nb, h.nb, hf, fun _ => by show s.now.length + 0 + 1 ≤ n + 1; omega⟩
        show (addI s.now (changeI s.since (faultI a s.now n * invM s.wrong % MD) s.before)).length ≤ n + 1
        omega
      · refine ⟨?_, by show s.since + 1 ≤ n + 1; omega, addI_bm h.nb, h.bb, h.wr, fun _ => by show s.before.length + (s.since + 1) + 1 ≤ n + 1; omega⟩
        show (addI s.now (changeI s.since (faultI a s.now n * invM s.wrong % MD) s.before)).length ≤ n + 1
        omega
theorem si_run {a : List Int} (ha : Bm a) : ∀ n, SIok n (runI a n)
  | 0 => ⟨by show 0 ≤ 0; omega, by show 0 ≤ 0; omega, Bm.nil, Bm.nil, ⟨Int.le_refl 0, by show (0 : Int) < 10007; decide⟩, fun h => by have : 0 < 0 := h; omega⟩
  | n + 1 => si_step ha (si_run ha n)
set_option maxHeartbeats 1000000 in
theorem impl_shortest_c {h : H} {u : Sl} {a : List Int} (ha : Bm a) (hal : a.length ≤ 100) (r : Rd h u 1 (ic a)) :
    callS SP i_impl_shortest [.sl u] h fun v h' => Ow h' v 1 (ic (runI a a.length).now) ∧ Fr h.length v ∧ Ext h h' := by
  have hul := r.ilen
  apply impl_shortest_call
  unfold impl_shortest_main
  refine newS_ow (by rfl) fun s0 h1 os0 ls0 so0 e1 => ?_
  have x1 : Ext h h1 := by rw [e1]; exact Ext.app _ _
  refine newS_ow (by rfl) fun s2 h3 os2 ls2 so2 e3 => ?_
  have x3 : Ext h1 h3 := by rw [e3]; exact Ext.app _ _
  rw [hul]
  refine impl_shortest_rule0 _ _ _ _ _ (fun s3 s4 wr sn i g => ∃ n : Nat, i = n ∧ n ≤ a.length ∧ Ow g s3 1 (ic (runI a n).now) ∧ Fr h.length s3 ∧ Rd g s4 1 (ic (runI a n).before) ∧ wr = (runI a n).wrong ∧ sn = ((runI a n).since : Int) ∧ Ext h g) (fun _ _ _ _ i _ => (a.length - i).toNat) ?_ _ _ _ _ _
    ⟨0, rfl, by omega, os0.ext x3, fun o e => by rw [so0] at e; cases e; exact Nat.le_refl _, os2.rd, rfl, rfl, x1.trans x3⟩
  rintro X s3 s4 _ _ _ g ⟨n, rfl, hn, o3, f3, r4, rfl, rfl, xg⟩ hX
  have sok := si_run ha n
  have sok' := si_run ha (n + 1)
  unfold impl_shortest_b0 impl_shortest_C0
  refine bif_dec (fun hi => ?_) (fun hi => ?_)
  rotate_left
  · have : n = a.length := by omega
    subst this
    exact ⟨_, rfl, o3, f3, xg⟩
  have hnl : n < a.length := by omega
  have hrun : runI a (n + 1) = stepI a n (runI a n) := rfl
  generalize runI a n = S at sok o3 r4 hX hrun
  have hS1 := sok.ln
  have hS2 := sok.sn
  have h3l := o3.rd.ilen
  have h4l := r4.ilen
  refine (r.ext xg).ldG (by omega) (by omega) ?_
  rw [Int.toNat_natCast]
  have en : w64 ((n : Int) + 1) = ((n + 1 : Nat) : Int) := by rw [w64_of (by omega) (by omega)]; push_cast; rfl
  have hwr : S.wrong < 10007 := sok.wr.2
  have hwr0 := sok.wr.1
  -- on to the next number
  have next : ∀ (s3' s4' : Sl) (wr : Int) (sn : Nat) (g' : H), Ow g' s3' 1 (ic (runI a (n + 1)).now) → Fr h.length s3' → Rd g' s4' 1 (ic (runI a (n + 1)).before) → wr = (runI a (n + 1)).wrong → sn = (runI a (n + 1)).since → Ext h g' → X (impl_shortest_e0 u s3' s4' wr (sn : Int) u (a.length : Int) (w64 ((n : Int) + 1))) g' := fun s3' s4' wr sn g' q1 q2 q3 q4 q5 q6 => by
    rw [en]
    exact hX _ _ _ _ _ _ ⟨n + 1, rfl, by omega, q1, q2, q3, q4, by rw [q5], q6⟩ (by omega)
  have hnow := sok.nb
  refine impl_shortest_rule2 _ _ X _ _ _ _ _ _ _ _ _ _ _ (fun f k g' => ∃ k' : Nat, k = k' ∧ k' ≤ S.now.length ∧ f = faultK a S.now n k' ∧ g' = g) (fun _ k _ => (S.now.length - k).toNat) ?_ _ _ ⟨0, rfl, by omega, rfl, rfl⟩
  rintro Y _ _ g' ⟨k, rfl, hk, rfl, eg⟩ hY
  rw [eg]
  unfold impl_shortest_b2 impl_shortest_C2 impl_shortest_C1
  have hfb := faultK_bd (r := S.now) ha n k
  have hfb2 : faultK a S.now n k < 10007 := hfb.2
  refine bif_dec (fun hk2 => ?_) (fun hk2 => ?_)
  · refine o3.rd.ldG (by omega) (by omega) ?_
    rw [Int.toNat_natCast, w64_of (n := (n : Int) - (k : Int)) (by omega) (by omega), w64_of (by omega) (by omega), show (n : Int) - (k : Int) - 1 = ((n - k - 1 : Nat) : Int) by omega]
    refine at_k (r.ext xg) (by omega) ?_
    have b1 := mulM (hnow.at k) (ha.at (n - k - 1))
    rw [w64_of (n := S.now.getD k 0 * a.getD (n - k - 1) 0) (by omega) (by omega), w64_of (n := faultK a S.now n k - S.now.getD k 0 * a.getD (n - k - 1) 0) (by omega) (by omega)]
    refine modulo_k ?_
    rw [w64_of (n := (k : Int) + 1) (by omega) (by omega)]
    exact hY _ _ _ ⟨k + 1, by push_cast; rfl, by omega, (faultK_succ a S.now n k).symm, rfl⟩ (by omega)
  have hkl : k = S.now.length := by omega
  subst hkl
  have hfI : faultK a S.now n S.now.length = faultI a S.now n := rfl
  rw [hfI] at hfb hfb2 ⊢
  refine bif_eq (fun q0 => ?_) (fun q0 => ?_)
  · have er : runI a (n + 1) = { S with since := S.since + 1 } := by rw [hrun]; unfold stepI; rw [if_pos q0]
    rw [w64_of (n := (S.since : Int) + 1) (by omega) (by omega), show (S.since : Int) + 1 = ((S.since + 1 : Nat) : Int) by push_cast; rfl]
    exact next _ _ _ _ _ (by rw [er]; exact o3) f3 (by rw [er]; exact r4) (by rw [er]) (by rw [er]) xg
  refine bif_eq (fun q1 => ?_) (fun q1 => ?_)
  · have er : runI a (n + 1) = ⟨List.replicate (n + 1) 0, [], faultI a S.now n, 0⟩ := by rw [hrun]; unfold stepI; rw [if_neg q0, if_pos (by omega)]
    rw [w64_of (n := (n : Int) + 1) (by omega) (by omega)] at next ⊢
    refine mkS_ow (by omega) (by unfold lim; omega) fun s5 h7 os5 ls5 so5 e7 => ?_
    have x7 : Ext g h7 := by rw [e7]; exact Ext.app _ _
    have hz : (List.replicate ((n : Int) + 1).toNat [AVal.int .i64 0]).flatten = ic (List.replicate (n + 1) 0) := by
      unfold ic
      rw [List.map_replicate, show ((n : Int) + 1).toNat = n + 1 by omega]; simp
    rw [hz] at os5
    exact next s5 Sl.nil _ 0 h7 (by rw [er]; exact os5) (fun o e => by rw [so5] at e; cases e; exact xg.len) (by rw [er]; exact Rd.nil _ _) (by rw [er]) (by rw [er]) (xg.trans x7)
  have hpos : 0 < S.now.length := by omega
  have hroom := sok.room hpos
  refine inverse_k sok.wr ⟨by decide, ?_⟩
  have hib := invM_bound S.wrong
  have b2 := mulM hfb hib
  rw [w64_of (n := faultI a S.now n * invM S.wrong) (by omega) (by omega), tmod_nn b2.1]
  have hfac := emodMD (faultI a S.now n * invM S.wrong)
  obtain ⟨fac, hfe⟩ : ∃ fac, faultI a S.now n * invM S.wrong % MD = fac := ⟨_, rfl⟩
  have hst : stepI a n S = if S.now.length < (addI S.now (changeI S.since fac S.before)).length then ⟨addI S.now (changeI S.since fac S.before), S.now, faultI a S.now n, 0⟩ else ⟨addI S.now (changeI S.since fac S.before), S.before, S.wrong, S.since + 1⟩ := by
    unfold stepI
    rw [if_neg q0, if_neg (by omega), hfe]
  rw [hfe] at hfac ⊢
  have hfac2 : fac < 10007 := hfac.2
  have hcl := change_len S.since fac S.before
  refine mkS_ow (by omega) (by unfold lim; omega) fun s5 h7 os5 ls5 so5 e7 => ?_
  have x7 : Ext g h7 := by rw [e7]; exact Ext.app _ _
  have hz : (List.replicate (S.since : Int).toNat [AVal.int .i64 0]).flatten = ic (List.replicate S.since 0) := by
    unfold ic
    rw [List.map_replicate, Int.toNat_natCast]; simp
  rw [hz] at os5
  refine pushI4 os5 (by simp; unfold lim; omega) fun s8 h9 os8 b9 k9 => ?_
  have so8 := k9 _ so5
  rw [so5] at b9
  have x9 : Ext g h9 := x7.but_ b9 (some_le (Nat.le_refl _))
  have hbef := sok.bb
  refine impl_shortest_rule5 _ _ X _ _ _ _ _ _ _ _ _ _ _ _ (fun s k g' => ∃ k' : Nat, k = k' ∧ k' ≤ S.before.length ∧ Ow g' s 1 (ic (List.replicate S.since 0 ++ fac :: (S.before.take k').map fun r => (-fac * r) % MD)) ∧ s.o = some g.length ∧ Ext g g') (fun _ k _ => (S.before.length - k).toNat) ?_ _ _ ⟨0, rfl, by omega, os8, so8, x9⟩
  rintro Z s13 _ g5 ⟨k, rfl, hk5, os13, so13, x5⟩ hZ
  unfold impl_shortest_b5 impl_shortest_C5
  refine bif_dec (fun hk6 => ?_) (fun hk6 => ?_)
  · have hkb : k < S.before.length := by omega
    refine (r4.ext x5).ldG (by omega) (by omega) ?_
    rw [Int.toNat_natCast]
    have b3 := mulM hfac (hbef.at k)
    rw [w64_of (n := 0 - fac) (by omega) (by omega), w64_of (n := (0 - fac) * S.before.getD k 0) (by rw [Int.sub_mul]; omega) (by rw [Int.sub_mul]; omega)]
    refine modulo_k ?_
    refine pushI4 os13 (by simp; unfold lim; omega) fun s' g6 o6 b6 k6 => ?_
    rw [so13] at b6
    rw [w64_of (n := (k : Int) + 1) (by omega) (by omega)]
    refine hZ _ _ _ ⟨k + 1, by push_cast; rfl, hkb, ?_, k6 _ so13, x5.but_ b6 (some_le (Nat.le_refl _))⟩ (by omega)
    rw [List.take_add_one, List.getElem?_eq_getElem hkb, List.map_append]
    have e : S.before.getD k 0 = S.before[k] := by rw [List.getD_eq_getElem?_getD, List.getElem?_eq_getElem hkb]; rfl
    rw [e, Int.zero_sub] at o6
    simpa using o6
  have hkb : k = S.before.length := by omega
  subst hkb
  rw [List.take_length, show List.replicate S.since 0 ++ fac :: (S.before.map fun r => (-fac * r) % MD) = changeI S.since fac S.before from rfl] at os13
  have hchb := changeI_bm S.since hfac S.before
  have hcl13 := os13.rd.ilen
  generalize changeI S.since fac S.before = ch at os13 hst hchb hcl hcl13
  refine (cloneS_c (o3.rd.ext x5) (by omega)).to ?_
  rintro s16 g8 ⟨o16, f16, x8⟩
  have r13 := os13.rd.ext x8
  have hg5 := x5.len
  refine impl_shortest_rule7 _ _ X _ _ _ _ _ _ _ _ _ _ _ (fun s k g' => ∃ k' : Nat, k = k' ∧ k' ≤ ch.length ∧ Ow g' s 1 (ic (addK S.now ch k')) ∧ Fr g5.length s ∧ Ext g5 g') (fun _ k _ => (ch.length - k).toNat) ?_ _ _ ⟨0, rfl, by omega, by rw [addK_zero]; exact o16, f16, x8⟩
  rintro W s _ g9 ⟨k, rfl, hk7, os, fs, x9'⟩ hW
  unfold impl_shortest_b7 impl_shortest_C7 impl_shortest_C1
  have hsl := os.rd.ilen
  have hakl := addK_len S.now ch k
  refine bif_dec (fun hk8 => ?_) (fun hk8 => ?_)
  · have hkc : k < ch.length := by omega
    refine (os13.rd.ext x9').ldG (by omega) (by omega) ?_
    rw [Int.toNat_natCast]
    have cb := hchb.at k
    have cb2 : ch.getD k 0 < 10007 := cb.2
    -- the number is added
    have put : ∀ (s : Sl) (l : List Int) (g10 : H), Ow g10 s 1 (ic l) → Fr g5.length s → Ext g5 g10 → k < l.length → Bm l → l.set k ((l.getD k 0 + ch.getD k 0) % MD) = addK S.now ch (k + 1) → ixS s 1 (k : Int) fun p => Cl.ldI .i64 p g10 fun n13 => callI SP .i64 i_impl_modulo [.int .i64 (w64 (n13 + ch.getD k 0))] g10 fun n15 h14 => ixS s 1 (k : Int) fun p16 => Cl.st1 p16 (.int .i64 n15) h14 fun h17 => W (impl_shortest_e7 u s3 s4 S.wrong (S.since : Int) (faultI a S.now n) s u (a.length : Int) (n : Int) s13 (s13.len : Int) (w64 ((k : Int) + 1))) h17 := fun s l g10 ol fl xl hkl hbl heq => by
      refine ol.rd.ldG (by omega) (by omega) ?_
      rw [Int.toNat_natCast]
      have lb := hbl.at k
      have lb2 : l.getD k 0 < 10007 := lb.2
      have hll := ol.rd.ilen
      rw [w64_of (n := l.getD k 0 + ch.getD k 0) (by omega) (by omega)]
      refine modulo_k ?_
      refine ol.stI (by omega) (by omega) _ fun g11 o11 b11 n11 => ?_
      rw [Int.toNat_natCast, heq] at o11
      rw [w64_of (n := (k : Int) + 1) (by omega) (by omega)]
      exact hW _ _ _ ⟨k + 1, by push_cast; rfl, hkc, o11, fl, xl.but_ b11 fun o e => fl o e⟩ (by omega)
    have hbak : ∀ q, Bm (addK S.now ch q) := fun q x hx => by
      unfold addK at hx
      obtain ⟨j, _, rfl⟩ := List.mem_map.1 hx
      split
      · exact emodMD _
      · exact hnow.at j
    refine bif_eq (fun q => ?_) (fun q => ?_)
    · have hle : S.now.length ≤ k := by omega
      refine pushI4 os (by unfold lim; omega) fun s' g10 o10 b10 k10 => ?_
      refine put s' _ g10 o10 (fun o e => ?_) (x9'.but_ b10 fun o e => fs o e) (by simp; omega) (fun x hx => ?_) (addK_out hle)
      · obtain ⟨p, _⟩ | ⟨o', p, _⟩ := os.at_
        · exact absurd p (by omega)
        · have := k10 _ p
          rw [this] at e; cases e
          exact fs _ p
      · rcases List.mem_append.1 hx with hx | hx
        · exact hbak k x hx
        · rw [List.mem_singleton.1 hx]; exact ⟨by decide, by decide⟩
    · exact put s _ g9 os fs x9' (by omega) (hbak k) (addK_in (by omega))
  have hkc : k = ch.length := by omega
  subst hkc
  rw [addK_all] at os hakl hsl
  have xall := xg.trans (x5.trans x9')
  have frs : Fr h.length s := fun o e => by have := fs o e; have := xg.len; omega
  refine bif_dec (fun q => ?_) (fun q => ?_)
  · have er : runI a (n + 1) = ⟨addI S.now ch, S.now, faultI a S.now n, 0⟩ := by rw [hrun, hst, if_pos (by omega)]
    exact next s s3 _ 0 g9 (by rw [er]; exact os) frs (by rw [er]; exact (o3.rd.ext x5).ext x9') (by rw [er]) (by rw [er]) xall
  · have er : runI a (n + 1) = ⟨addI S.now ch, S.before, S.wrong, S.since + 1⟩ := by rw [hrun, hst, if_neg (by omega)]
    rw [w64_of (n := (S.since : Int) + 1) (by omega) (by omega), show (S.since : Int) + 1 = ((S.since + 1 : Nat) : Int) by push_cast; rfl]
    exact next s s4 _ _ g9 (by rw [er]; exact os) frs (by rw [er]; exact (r4.ext x5).ext x9') (by rw [er]) (by rw [er]) xall
end Go.Proofs.Ytnamnpbkiibadaa.Cl

/- The reference's shortest recurrence: its walk. No claim is stated here. -/
set_option linter.unusedVariables false
set_option linter.unusedSimpArgs false
namespace Go.Proofs.Ytnamnpbkiibadaa.Cl
open Go
theorem sneS {a b : Nat} (h : a ≠ b) : some a ≠ some b := fun e => h (Option.some.inj e)
theorem l06Inverse_k {x : Int} (hx : 0 ≤ x ∧ x < MD) {h : H} {K : Int → H → Prop} (hk : K (invM x) h) : callI SP .i64 i_spec_l06Inverse [i64 x] h K := by
  refine (show callI SP .i64 i_spec_l06Inverse [i64 x] h fun n h' => n = invM x ∧ h' = h from ?_).to (by rintro _ _ ⟨rfl, rfl⟩; exact hk)
  apply spec_l06Inverse_call
  unfold spec_l06Inverse_main
  refine spec_l06Inverse_rule0 _ _ (fun out n k g => ∃ (f k' : Nat), k = k' ∧ k' ≤ 10005 ∧ k' < 2 ^ f ∧ (0 ≤ n ∧ n < MD) ∧ (0 ≤ out ∧ out < MD) ∧ invF f k' out n = invM x ∧ h = g) (fun _ _ k _ => k.toNat) ?_ _ _ _ ⟨14, 10005, rfl, by decide, by decide, hx, by decide, rfl, rfl⟩
  rintro X out n _ _ ⟨f, k, rfl, hk5, hk2, hn, ho, he, rfl⟩ hX
  unfold spec_l06Inverse_b0 spec_l06Inverse_C0
  refine bif_dec (fun q => ⟨by decide, ?_⟩) (fun q => ?_)
  · rw [tmod2, tdiv2]
    have b1 := mulM hn hn
    have b2 := mulM ho hn
    cases f with
    | zero => simp at hk2; omega
    | succ f =>
      rw [invF, if_neg (by omega)] at he
      have hk3 : k / 2 < 2 ^ f := by rw [Nat.pow_succ] at hk2; omega
      refine bif_eq (fun q2 => ?_) (fun q2 => ?_)
      · rw [if_pos (by omega)] at he
        refine ⟨by decide, by decide, by decide, ?_⟩
        rw [w64_of (n := out * n) (by omega) (by omega), w64_of (n := n * n) (by omega) (by omega), tmod_nn b1.1, tmod_nn b2.1, w64_of (n := ((k / 2 : Nat) : Int)) (by omega) (by omega)]
        exact hX _ _ _ _ ⟨f, k / 2, rfl, by omega, hk3, emodMD _, emodMD _, he, rfl⟩ (by omega)
      · rw [if_neg (by omega)] at he
        refine ⟨by decide, by decide, ?_⟩
        rw [w64_of (n := n * n) (by omega) (by omega), tmod_nn b1.1, w64_of (n := ((k / 2 : Nat) : Int)) (by omega) (by omega)]
        exact hX _ _ _ _ ⟨f, k / 2, rfl, by omega, hk3, emodMD _, ho, he, rfl⟩ (by omega)
  · have : k = 0 := by omega
    subst this
    rw [invF_zero] at he
    exact ⟨_, rfl, he, rfl⟩
structure SSok (n : Nat) (s : SS) : Prop where
  ln : s.now.length ≤ (n + 1) * (n + 1)
  ll : s.last.length ≤ (n + 1) * (n + 1)
  sn : s.since ≤ n + 1
  le : s.len ≤ n
  nb : Bm s.now
  bb : Bm s.last
  od : 0 ≤ s.old ∧ s.old < MD
theorem sq_succ (n : Nat) : (n + 1 + 1) * (n + 1 + 1) = (n + 1) * (n + 1) + (2 * n + 3) := by
  rw [Nat.add_mul, Nat.mul_add]; omega
theorem mendS_bm {c last : List Int} (hc : Bm c) (since : Nat) (times : Int) : Bm (mendS c last since times) := fun x h => by
  unfold mendS at h
  obtain ⟨j, _, rfl⟩ := List.mem_map.1 h
  split
  · exact emodMD _
  · exact hc.at j
theorem ss_step {a : List Int} {n : Nat} {s : SS} (h : SSok n s) : SSok (n + 1) (stepS a n s) := by
  have hsq := sq_succ n
  have h1 := h.ln
  have h2 := h.ll
  have h3 := h.sn
  have h4 := h.le
  have hg := gapK_bound a s.now n (s.len + 1)
  unfold stepS
  split
  · exact ⟨by show s.now.length ≤ _; omega, by show s.last.length ≤ _; omega, by show s.since + 1 ≤ _; omega, by show s.len ≤ _; omega, h.nb, h.bb, h.od⟩
  · have hm := mend_len s.now s.last s.since (gapS a s.now s.len n * invM s.old % MD)
    split
    · refine ⟨?_, by show s.now.length ≤ _; omega, by show 1 ≤ _; omega, by show n + 1 - s.len ≤ n + 1; omega, mendS_bm h.nb _ _, h.nb, hg⟩
      show (mendS s.now s.last s.since (gapS a s.now s.len n * invM s.old % MD)).length ≤ _
      omega
    · refine ⟨?_, by show s.last.length ≤ _; omega, by show s.since + 1 ≤ _; omega, by show s.len ≤ _; omega, mendS_bm h.nb _ _, h.bb, h.od⟩
      show (mendS s.now s.last s.since (gapS a s.now s.len n * invM s.old % MD)).length ≤ _
      omega
theorem ss_run {a : List Int} : ∀ n, SSok n (runS a n)
  | 0 => ⟨by show 1 ≤ 1; omega, by show 1 ≤ 1; omega, by show 1 ≤ 1; omega, by show 0 ≤ 0; omega, (fun x hx => by rw [List.mem_singleton.1 hx]; exact ⟨by decide, by decide⟩), (fun x hx => by rw [List.mem_singleton.1 hx]; exact ⟨by decide, by decide⟩), ⟨by show (0 : Int) ≤ 1; decide, by show (1 : Int) < 10007; decide⟩⟩
  | n + 1 => ss_step (ss_run n)
def mendK (c last : List Int) (since : Nat) (times : Int) (i : Nat) : List Int := (List.range (max c.length (last.length + since))).map fun j => if since ≤ j ∧ j - since < i then (c.getD j 0 + (MD - times) * last.getD (j - since) 0) % MD else c.getD j 0
theorem mendK_len (c last : List Int) (since : Nat) (times : Int) (i : Nat) : (mendK c last since times i).length = max c.length (last.length + since) := by unfold mendK; simp
theorem mendK_at {c last : List Int} {since : Nat} {times : Int} {i j : Nat} (h : j < max c.length (last.length + since)) : (mendK c last since times i).getD j 0 = if since ≤ j ∧ j - since < i then (c.getD j 0 + (MD - times) * last.getD (j - since) 0) % MD else c.getD j 0 := by unfold mendK; exact getD_map h
theorem mendK_zero (c last : List Int) (since : Nat) (times : Int) {k : Nat} (hk : c.length + k = max c.length (last.length + since)) : c ++ List.replicate k 0 = mendK c last since times 0 :=
  ext_getD (by rw [mendK_len, List.length_append, List.length_replicate]; exact hk) fun i hi => by
    rw [List.length_append, List.length_replicate] at hi
    rw [mendK_at (by omega), if_neg (by omega)]
    by_cases h : i < c.length
    · rw [List.getD_eq_getElem?_getD, List.getElem?_append_left h, ← List.getD_eq_getElem?_getD]
    · rw [List.getD_eq_getElem?_getD, List.getElem?_append_right (by omega), List.getElem?_replicate, getD_big (by omega)]
      split <;> rfl
theorem mendK_succ (c last : List Int) (since : Nat) (times : Int) {i : Nat} (hi : i < last.length) :
    (mendK c last since times i).set (i + since) (((mendK c last since times i).getD (i + since) 0 + (MD - times) * last.getD i 0) % MD) = mendK c last since times (i + 1) :=
  ext_getD (by rw [List.length_set, mendK_len, mendK_len]) fun j hj => by
    rw [List.length_set, mendK_len] at hj
    rw [getD_setI (by rw [mendK_len]; omega)]
    by_cases e : i + since = j
    · subst e
      rw [if_pos rfl, mendK_at (i := i) (j := i + since) (by omega), mendK_at (i := i + 1) (j := i + since) (by omega), if_neg (by omega), if_pos (by omega), show i + since - since = i by omega]
    · rw [if_neg e, mendK_at (i := i) (j := j) (by omega), mendK_at (i := i + 1) (j := j) (by omega)]
      by_cases h2 : since ≤ j ∧ j - since < i
      · rw [if_pos h2, if_pos (by omega)]
      · rw [if_neg h2, if_neg (by omega)]
theorem mendK_bm {c last : List Int} (hc : Bm c) (since : Nat) (times : Int) (i : Nat) : Bm (mendK c last since times i) := fun x h => by
  unfold mendK at h
  obtain ⟨j, _, rfl⟩ := List.mem_map.1 h
  split
  · exact emodMD _
  · exact hc.at j
theorem gapK_succ (a c : List Int) (n k : Nat) : gapK a c n (k + 1) = (gapK a c n k + c.getD k 0 * a.getD (n - k) 0) % MD := by unfold gapK; rw [foldl_succ]
/-- The numbers told, as far as they are. -/
def outK (s : SS) (k : Nat) : List Int := (List.range s.len).map fun i => if i + 1 < s.now.length ∧ i + 1 < k then (MD - s.now.getD (i + 1) 0) % MD else 0
theorem outK_len (s : SS) (k : Nat) : (outK s k).length = s.len := by unfold outK; simp
theorem outK_at {s : SS} {k i : Nat} (h : i < s.len) : (outK s k).getD i 0 = if i + 1 < s.now.length ∧ i + 1 < k then (MD - s.now.getD (i + 1) 0) % MD else 0 := by unfold outK; exact getD_map h
theorem outK_one (s : SS) : List.replicate s.len 0 = outK s 1 := ext_getD (by rw [outK_len, List.length_replicate]) fun i hi => by
  rw [List.length_replicate] at hi
  rw [outK_at hi, if_neg (by omega), List.getD_eq_getElem?_getD, List.getElem?_replicate, if_pos hi]; rfl
theorem outK_succ {s : SS} {k : Nat} (h1 : 1 ≤ k) (h2 : k ≤ s.len) (h3 : k < s.now.length) : (outK s k).set (k - 1) ((MD - s.now.getD k 0) % MD) = outK s (k + 1) :=
  ext_getD (by rw [List.length_set, outK_len, outK_len]) fun i hi => by
    rw [List.length_set, outK_len] at hi
    rw [getD_setI (by rw [outK_len]; omega), outK_at (k := k + 1) hi]
    by_cases e : k - 1 = i
    · subst e
      rw [if_pos rfl, if_pos (by omega), show k - 1 + 1 = k by omega]
    · rw [if_neg e, outK_at hi]
      by_cases h : i + 1 < s.now.length ∧ i + 1 < k
      · rw [if_pos h, if_pos (by omega)]
      · rw [if_neg h, if_neg (by omega)]
theorem outK_end {s : SS} {k : Nat} (h : s.len < k ∨ s.now.length ≤ k) : outK s k = outS s := by
  unfold outK outS
  refine List.map_congr_left fun i hi => ?_
  have := List.mem_range.1 hi
  by_cases h2 : i + 1 < s.now.length
  · rw [if_pos h2, if_pos (by omega)]
  · rw [if_neg h2, if_neg (by omega)]
set_option maxHeartbeats 1000000 in
theorem l06Shortest_c {h : H} {u : Sl} {a : List Int} (ha : Bm a) (hal : a.length ≤ 100) (r : Rd h u 1 (ic a)) :
    callS SP i_spec_l06Shortest [.sl u] h fun v h' => Ow h' v 1 (ic (outS (runS a a.length))) ∧ Fr h.length v ∧ Ext h h' := by
  have hul := r.ilen
  apply spec_l06Shortest_call
  unfold spec_l06Shortest_main
  refine newS_ow (by rfl) fun s0 h1 os0 ls0 so0 e1 => ?_
  have x1 : Ext h h1 := by rw [e1]; exact Ext.app _ _
  refine newS_ow (by rfl) fun s2 h3 os2 ls2 so2 e3 => ?_
  have x3 : Ext h1 h3 := by rw [e3]; exact Ext.app _ _
  have l1 : h1.length = h.length + 1 := by rw [e1]; simp
  refine spec_l06Shortest_rule0 _ _ _ (fun s3 s4 sn od len i g => ∃ n : Nat, i = n ∧ n ≤ a.length ∧ Ow g s3 1 (ic (runS a n).now) ∧ s3.o = some h.length ∧ Rd g s4 1 (ic (runS a n).last) ∧ s4.o ≠ some h.length ∧ sn = ((runS a n).since : Int) ∧ od = (runS a n).old ∧ len = ((runS a n).len : Int) ∧ Ext h g) (fun _ _ _ _ _ i _ => (a.length - i).toNat) ?_ _ _ _ _ _ _
    ⟨0, rfl, by omega, os0.ext x3, so0, os2.rd, by rw [so2]; exact sneS (by omega), rfl, rfl, rfl, x1.trans x3⟩
  rintro X s3 s4 _ _ _ _ g ⟨n, rfl, hn, o3, f3, r4, d34, rfl, rfl, rfl, xg⟩ hX
  have sok := ss_run (a := a) n
  unfold spec_l06Shortest_b0 spec_l06Shortest_C0
  refine bif_dec (fun hi => ?_) (fun hi => ?_)
  rotate_left
  · have : n = a.length := by omega
    subst this
    have h1' := sok.le
    have h2' := sok.nb
    generalize runS a a.length = S at sok o3 r4 h1' h2'
    have h3l := o3.rd.ilen
    refine mkS_ow (by omega) (by unfold lim; omega) fun s5 h7 os5 ls5 so5 e7 => ?_
    have x7 : Ext g h7 := by rw [e7]; exact Ext.app _ _
    have hz : (List.replicate (S.len : Int).toNat [AVal.int .i64 0]).flatten = ic (List.replicate S.len 0) := by
      unfold ic
      rw [List.map_replicate, Int.toNat_natCast]; simp
    rw [hz, outK_one] at os5
    refine spec_l06Shortest_rule8 _ _ _ _ _ (fun i g' => ∃ k : Nat, i = k ∧ 1 ≤ k ∧ k ≤ S.len + 1 ∧ Ow g' s5 1 (ic (outK S k)) ∧ Ext g g') (fun i _ => (S.len + 1 - i).toNat) ?_ _ ⟨1, rfl, by omega, by omega, os5, x7⟩
    rintro Y _ g' ⟨k, rfl, hk1, hk2, os, x⟩ hY
    unfold spec_l06Shortest_b8 spec_l06Shortest_C8
    have hg := xg.len
    have fin : (S.len < k ∨ S.now.length ≤ k) → ∃ v, AVal.sl s5 = .sl v ∧ Ow g' v 1 (ic (outS S)) ∧ Fr h.length v ∧ Ext h g' := fun q => ⟨s5, rfl, by rw [← outK_end q]; exact os, fun o e => by rw [so5] at e; cases e; omega, xg.trans x⟩
    have hln := sok.ln
    refine bif_dec (fun q => ?_) (fun q => fin (.inl (by omega)))
    refine bif_dec (fun q2 => ?_) (fun q2 => fin (.inr (by omega)))
    refine (o3.rd.ext x).ldG (by omega) (by omega) ?_
    rw [Int.toNat_natCast]
    have b := h2'.at k
    have b2 : S.now.getD k 0 < 10007 := b.2
    have hsl := os.rd.ilen
    rw [outK_len] at hsl
    rw [w64_of (n := 10007 - S.now.getD k 0) (by omega) (by omega), w64_of (n := (k : Int) - 1) (by omega) (by omega), tmod_nn (by omega)]
    refine ⟨by decide, ?_⟩
    refine os.stI (by omega) (by omega) _ fun g2 o2 b2' n2 => ?_
    rw [show ((k : Int) - 1).toNat = k - 1 by omega, show (10007 - S.now.getD k 0) % MD = (MD - S.now.getD k 0) % MD from rfl, outK_succ hk1 (by omega) (by omega)] at o2
    have hkb : k ≤ 101 := by omega
    rw [w64_of (n := (k : Int) + 1) (by omega) (by omega)]
    exact hY _ _ ⟨k + 1, by push_cast; rfl, by omega, by omega, o2, x.but_ b2' fun o e => by rw [so5] at e; cases e; exact Nat.le_refl _⟩ (by omega)
  have hnl : n < a.length := by omega
  have hrun : runS a (n + 1) = stepS a n (runS a n) := rfl
  have hsq : (n + 1) * (n + 1) ≤ 101 * 101 := Nat.mul_le_mul (by omega) (by omega)
  generalize runS a n = S at sok o3 r4 hX hrun
  have hS1 := sok.ln
  have hS2 := sok.ll
  have hS3 := sok.sn
  have hS4 := sok.le
  have h3l := o3.rd.ilen
  have h4l := r4.ilen
  have hod := sok.od.2
  have en : w64 ((n : Int) + 1) = ((n + 1 : Nat) : Int) := by rw [w64_of (by omega) (by omega)]; push_cast; rfl
  have next : ∀ (s3' s4' : Sl) (sn : Nat) (od : Int) (len : Nat) (g' : H), Ow g' s3' 1 (ic (runS a (n + 1)).now) → s3'.o = some h.length → Rd g' s4' 1 (ic (runS a (n + 1)).last) → s4'.o ≠ some h.length → sn = (runS a (n + 1)).since → od = (runS a (n + 1)).old → len = (runS a (n + 1)).len → Ext h g' → X (spec_l06Shortest_e0 u s3' s4' (sn : Int) od (len : Int) (w64 ((n : Int) + 1))) g' := fun s3' s4' sn od len g' q1 q2 q3 q4 q5 q6 q7 q8 => by
    rw [en]
    exact hX _ _ _ _ _ _ _ ⟨n + 1, rfl, by omega, q1, q2, q3, q4, by rw [q5], q6, by rw [q7], q8⟩ (by omega)
  refine spec_l06Shortest_rule2 _ _ X _ _ _ _ _ _ _ (fun f k g' => ∃ k' : Nat, k = k' ∧ k' ≤ S.len + 1 ∧ f = gapK a S.now n k' ∧ g' = g) (fun _ k _ => (S.len + 1 - k).toNat) ?_ _ _ ⟨0, rfl, by omega, rfl, rfl⟩
  rintro Y _ _ g' ⟨k, rfl, hk, rfl, eg⟩ hY
  rw [eg]
  have hgb := gapK_bound a S.now n k
  have hgb2 : gapK a S.now n k < 10007 := hgb.2
  -- behind the gap
  have rest : gapK a S.now n k = gapS a S.now S.len n → spec_l06Shortest_C2 SP (fun v h' => ∃ r, v = .sl r ∧ Ow h' r 1 (ic (outS (runS a a.length))) ∧ Fr h.length r ∧ Ext h h') X u s3 s4 (S.since : Int) S.old (S.len : Int) (n : Int) (gapK a S.now n k) g := fun eG => by
    unfold spec_l06Shortest_C2
    rw [eG] at hgb hgb2 ⊢
    refine bif_eq (fun q0 => ?_) (fun q0 => ?_)
    · have er : runS a (n + 1) = { S with since := S.since + 1 } := by rw [hrun]; unfold stepS; rw [if_pos q0]
      unfold spec_l06Shortest_C1
      rw [w64_of (n := (S.since : Int) + 1) (by omega) (by omega), show (S.since : Int) + 1 = ((S.since + 1 : Nat) : Int) by push_cast; rfl]
      exact next _ _ _ _ _ _ (by rw [er]; exact o3) f3 (by rw [er]; exact r4) d34 (by rw [er]) (by rw [er]) (by rw [er]) xg
    refine (ownS_c o3.rd (by omega)).to ?_
    rintro s11 g1 ⟨o11, f11, x1'⟩
    refine l06Inverse_k sok.od ⟨by decide, ?_⟩
    have hib := invM_bound S.old
    have b2 := mulM hgb hib
    rw [w64_of (n := gapS a S.now S.len n * invM S.old) (by omega) (by omega), tmod_nn b2.1]
    have htm := emodMD (gapS a S.now S.len n * invM S.old)
    obtain ⟨tm, hte⟩ : ∃ tm, gapS a S.now S.len n * invM S.old % MD = tm := ⟨_, rfl⟩
    have hst : stepS a n S = if 2 * S.len ≤ n then ⟨mendS S.now S.last S.since tm, S.now, 1, gapS a S.now S.len n, n + 1 - S.len⟩ else ⟨mendS S.now S.last S.since tm, S.last, S.since + 1, S.old, S.len⟩ := by
      unfold stepS
      rw [if_neg q0, hte]
    rw [hte] at htm ⊢
    have htm2 : tm < 10007 := htm.2
    have hg1 := x1'.len
    have h3lt := o3.lt f3
    have h11 : s11.o ≠ some h.length := fun e => by have := f11 _ e; omega
    refine spec_l06Shortest_rule4 _ _ X _ _ _ _ _ _ _ _ _ (fun s g' => ∃ k : Nat, S.now.length + k ≤ max S.now.length (S.last.length + S.since) ∧ Ow g' s 1 (ic (S.now ++ List.replicate k 0)) ∧ s.o = some h.length ∧ Rd g' s4 1 (ic S.last) ∧ Rd g' s11 1 (ic S.now) ∧ Ext h g') (fun s _ => (S.last.length + S.since - s.len)) ?_ _ ⟨0, by omega, by rw [List.replicate_zero, List.append_nil]; exact o3.ext x1', f3, r4.ext x1', o11.rd, xg.trans x1'⟩
    rintro Z s g2 ⟨j, hj, os, so, r4', r11, xg2⟩ hZ
    unfold spec_l06Shortest_b4 spec_l06Shortest_C4
    have hsl := os.rd.ilen
    rw [List.length_append, List.length_replicate] at hsl
    rw [w64_of (n := (s4.len : Int) + (S.since : Int)) (by omega) (by omega)]
    refine bif_dec (fun q1 => ?_) (fun q1 => ?_)
    · refine pushI4 os (by rw [List.length_append, List.length_replicate]; unfold lim; omega) fun s' g3 o3' b3 k3 => ?_
      rw [so] at b3
      have hl3 := o3'.rd.ilen
      rw [List.length_append, List.length_append, List.length_replicate] at hl3
      refine hZ _ _ ⟨j + 1, by omega, ?_, k3 _ so, r4'.but b3 (.inl (Ne.symm d34)), r11.but b3 (.inl (Ne.symm h11)), xg2.but_ b3 (some_le (Nat.le_refl _))⟩ (by simp at hl3; omega)
      rw [List.replicate_succ', ← List.append_assoc]; exact o3'
    have hjm : S.now.length + j = max S.now.length (S.last.length + S.since) := by omega
    rw [mendK_zero S.now S.last S.since tm hjm] at os
    refine spec_l06Shortest_rule6 _ _ X _ _ _ _ _ _ _ _ _ _ (fun i g' => ∃ k : Nat, i = k ∧ k ≤ S.last.length ∧ Ow g' s 1 (ic (mendK S.now S.last S.since tm k)) ∧ Rd g' s4 1 (ic S.last) ∧ Rd g' s11 1 (ic S.now) ∧ Ext h g') (fun i _ => (S.last.length - i).toNat) ?_ _ ⟨0, rfl, by omega, os, r4', r11, xg2⟩
    rintro W _ g3 ⟨m, rfl, hm, os3, r43, r113, xg3⟩ hW
    unfold spec_l06Shortest_b6 spec_l06Shortest_C6 spec_l06Shortest_C1
    have hs3 := os3.rd.ilen
    rw [mendK_len] at hs3
    refine bif_dec (fun q2 => ?_) (fun q2 => ?_)
    · have hml : m < S.last.length := by omega
      rw [w64_of (n := (m : Int) + (S.since : Int)) (by omega) (by omega), show (m : Int) + (S.since : Int) = ((m + S.since : Nat) : Int) by push_cast; rfl]
      refine os3.rd.ldG (by omega) (by rw [mendK_len]; omega) ?_
      refine r43.ldG (by omega) (by omega) ?_
      rw [Int.toNat_natCast, Int.toNat_natCast]
      have bx := (mendK_bm sok.nb (last := S.last) S.since tm m).at (m + S.since)
      have bx2 : (mendK S.now S.last S.since tm m).getD (m + S.since) 0 < 10007 := bx.2
      have by' := sok.bb.at m
      have b3 := mulM (x := 10006 - (tm - 1) - 1) (y := S.last.getD m 0) ⟨by omega, by show _ < (10007 : Int); omega⟩ by'
      have e10 : (10006 - (tm - 1) - 1) = 10006 - tm := by omega
      have hyl : S.last.getD m 0 < 10007 := by'.2
      have b4 : (10007 - tm) * S.last.getD m 0 = (10006 - (tm - 1) - 1) * S.last.getD m 0 + S.last.getD m 0 := by
        rw [e10, show (10007 - tm) = (10006 - tm) + 1 by omega, Int.add_mul, Int.one_mul]
      rw [w64_of (n := 10007 - tm) (by omega) (by omega), w64_of (n := (10007 - tm) * S.last.getD m 0) (by omega) (by omega), w64_of (n := (mendK S.now S.last S.since tm m).getD (m + S.since) 0 + (10007 - tm) * S.last.getD m 0) (by omega) (by omega), tmod_nn (by omega)]
      refine ⟨by decide, ?_⟩
      refine os3.stI (by omega) (by omega) _ fun g4 o4 b4' n4 => ?_
      rw [so] at b4'
      rw [Int.toNat_natCast, show ((mendK S.now S.last S.since tm m).getD (m + S.since) 0 + (10007 - tm) * S.last.getD m 0) % MD = ((mendK S.now S.last S.since tm m).getD (m + S.since) 0 + (MD - tm) * S.last.getD m 0) % MD from rfl, mendK_succ _ _ _ _ hml] at o4
      rw [w64_of (n := (m : Int) + 1) (by omega) (by omega)]
      exact hW _ _ ⟨m + 1, by push_cast; rfl, hml, o4, r43.but b4' (.inl (Ne.symm d34)), r113.but b4' (.inl (Ne.symm h11)), xg3.but_ b4' (some_le (Nat.le_refl _))⟩ (by omega)
    · have hml : m = S.last.length := by omega
      subst hml
      have em : mendK S.now S.last S.since tm S.last.length = mendS S.now S.last S.since tm := rfl
      rw [em] at os3
      rw [w64_of (n := 2 * (S.len : Int)) (by omega) (by omega)]
      refine bif_dec (fun q3 => ?_) (fun q3 => ?_)
      · have er : runS a (n + 1) = ⟨mendS S.now S.last S.since tm, S.now, 1, gapS a S.now S.len n, n + 1 - S.len⟩ := by rw [hrun, hst, if_pos (by omega)]
        have ew : w64 (w64 ((n : Int) + 1) - (S.len : Int)) = ((n + 1 - S.len : Nat) : Int) := by
          rw [w64_of (n := (n : Int) + 1) (by omega) (by omega), w64_of (by omega) (by omega)]; omega
        rw [ew]
        exact next s s11 1 _ _ g3 (by rw [er]; exact os3) so (by rw [er]; exact r113) h11 (by rw [er]) (by rw [er]) (by rw [er]) xg3
      · have er : runS a (n + 1) = ⟨mendS S.now S.last S.since tm, S.last, S.since + 1, S.old, S.len⟩ := by rw [hrun, hst, if_neg (by omega)]
        rw [w64_of (n := (S.since : Int) + 1) (by omega) (by omega), show (S.since : Int) + 1 = ((S.since + 1 : Nat) : Int) by push_cast; rfl]
        exact next s s4 _ _ _ g3 (by rw [er]; exact os3) so (by rw [er]; exact r43) d34 (by rw [er]) (by rw [er]) (by rw [er]) xg3
  unfold spec_l06Shortest_b2
  refine bif_dec (fun q1 => ?_) (fun q1 => ?_)
  · refine bif_dec (fun q2 => ?_) (fun q2 => ?_)
    · refine o3.rd.ldG (by omega) (by omega) ?_
      rw [Int.toNat_natCast, w64_of (n := (n : Int) - (k : Int)) (by omega) (by omega), show (n : Int) - (k : Int) = ((n - k : Nat) : Int) by omega]
      refine (r.ext xg).ldG (by omega) (by omega) ?_
      rw [Int.toNat_natCast]
      have b1 := mulM (sok.nb.at k) (ha.at (n - k))
      rw [w64_of (n := S.now.getD k 0 * a.getD (n - k) 0) (by omega) (by omega), w64_of (n := gapK a S.now n k + S.now.getD k 0 * a.getD (n - k) 0) (by omega) (by omega), tmod_nn (by omega), w64_of (n := (k : Int) + 1) (by omega) (by omega)]
      exact ⟨by decide, hY _ _ _ ⟨k + 1, by push_cast; rfl, by omega, (gapK_succ a S.now n k).symm, rfl⟩ (by omega)⟩
    · refine rest ?_
      unfold gapS
      obtain ⟨d, hd⟩ : ∃ d, S.len + 1 = k + d := ⟨S.len + 1 - k, by omega⟩
      rw [hd, gapK_more d k (by omega)]
  · refine rest ?_
    unfold gapS
    rw [show k = S.len + 1 by omega]
end Go.Proofs.Ytnamnpbkiibadaa.Cl

/- Lasting edges: the plain law (ways without end over finitely many colours). No claim is stated here. -/
set_option linter.unusedVariables false
set_option linter.unusedSimpArgs false
namespace Go.Proofs.Ytnamnpbkiibadaa.Cl
/-- An edge leads from its first colour to its second one. -/
abbrev Edge := Nat × Nat
def stepB (es : List Edge) (A : Nat → Bool) (w : Nat) : Bool := es.any fun e => e.1 == w && A e.2
def itB (es : List Edge) : Nat → Nat → Bool
  | 0 => fun _ => true
  | k + 1 => stepB es (itB es k)
theorem stepB_iff {es : List Edge} {A : Nat → Bool} {w : Nat} : stepB es A w = true ↔ ∃ e ∈ es, e.1 = w ∧ A e.2 = true := by
  unfold stepB
  simp [List.any_eq_true]
theorem stepB_mono {es : List Edge} {A B : Nat → Bool} (h : ∀ w, A w = true → B w = true) (w : Nat) (a : stepB es A w = true) : stepB es B w = true := by
  obtain ⟨e, he, h1, h2⟩ := stepB_iff.1 a
  exact stepB_iff.2 ⟨e, he, h1, h _ h2⟩
theorem itB_dec (es : List Edge) : ∀ k w, itB es (k + 1) w = true → itB es k w = true
  | 0, w, _ => rfl
  | k + 1, w, h => stepB_mono (itB_dec es k) w h
theorem stepB_congr {es : List Edge} {n : Nat} (hn : ∀ e ∈ es, e.2 < n) {A B : Nat → Bool} (h : ∀ w, w < n → A w = B w) (w : Nat) : stepB es A w = stepB es B w := by
  have key : ∀ A B : Nat → Bool, (∀ w, w < n → A w = B w) → stepB es A w = true → stepB es B w = true := fun A B h a => by
    obtain ⟨e, he, h1, h2⟩ := stepB_iff.1 a
    exact stepB_iff.2 ⟨e, he, h1, by rw [← h _ (hn e he)]; exact h2⟩
  have a := key A B h
  have b := key B A fun w hw => (h w hw).symm
  revert a b
  cases stepB es A w <;> cases stepB es B w <;> simp
def cntB (n : Nat) (A : Nat → Bool) : Nat := (List.range n).countP A
theorem countP_lt {α : Type} {p q : α → Bool} : ∀ (l : List α), (∀ x ∈ l, q x = true → p x = true) → (∃ x ∈ l, p x = true ∧ q x = false) → l.countP q < l.countP p
  | [], _, h => by obtain ⟨x, hx, _⟩ := h; cases hx
  | a :: l, h, ⟨x, hx, h1, h2⟩ => by
    rw [List.countP_cons, List.countP_cons]
    have hle : l.countP q ≤ l.countP p := List.countP_mono_left fun y hy hq => h y (by simp [hy]) hq
    rcases List.mem_cons.1 hx with rfl | hx
    · rw [h1, h2]; simp; omega
    · have ih := countP_lt l (fun y hy => h y (by simp [hy])) ⟨x, hx, h1, h2⟩
      by_cases hq : q a = true
      · rw [hq, h a (by simp) hq]; omega
      · rw [if_neg hq]; split <;> omega
theorem cntB_lt {n : Nat} {A B : Nat → Bool} (h : ∀ w, w < n → B w = true → A w = true) (hne : ∃ w, w < n ∧ A w ≠ B w) : cntB n B < cntB n A := by
  obtain ⟨w, hw, hd⟩ := hne
  refine countP_lt _ (fun x hx => h x (List.mem_range.1 hx)) ⟨w, List.mem_range.2 hw, ?_⟩
  have := h w hw
  revert hd this
  cases A w <;> cases B w <;> simp
theorem itB_stable {es : List Edge} {n : Nat} (hn : ∀ e ∈ es, e.2 < n) {k : Nat} (h : ∀ w, w < n → itB es (k + 1) w = itB es k w) (w : Nat) : itB es (k + 2) w = itB es (k + 1) w := stepB_congr hn h w
theorem itB_fix {es : List Edge} {n : Nat} (hn : ∀ e ∈ es, e.2 < n) : ∀ k, (∀ w, w < n → itB es (k + 1) w = itB es k w) ∨ cntB n (itB es k) + k ≤ n
  | 0 => .inr (by unfold cntB; have := List.countP_le_length (p := itB es 0) (l := List.range n); rw [List.length_range] at this; omega)
  | k + 1 => by
    rcases itB_fix hn k with h | h
    · exact .inl fun w _ => itB_stable hn h w
    · by_cases e : ∀ w, w < n → itB es (k + 1) w = itB es k w
      · exact .inl fun w _ => itB_stable hn e w
      · have hex : ∃ w, w < n ∧ itB es k w ≠ itB es (k + 1) w := by
          refine Classical.byContradiction fun c => e fun w hw => ?_
          exact Classical.byContradiction fun d => c ⟨w, hw, fun q => d q.symm⟩
        have := cntB_lt (n := n) (A := itB es k) (B := itB es (k + 1)) (fun w _ => itB_dec es k w) hex
        exact .inr (by omega)
/-- After as many steps as there are colours, nothing changes any more. -/
theorem itB_end {es : List Edge} {n : Nat} (hn : ∀ e ∈ es, e.2 < n) (w : Nat) (hw : w < n) : itB es (n + 1) w = itB es n w := by
  rcases itB_fix hn n with h | h
  · exact h w hw
  · have h0 : cntB n (itB es n) = 0 := by omega
    have hf : itB es n w = false := by
      unfold cntB at h0
      rw [List.countP_eq_zero] at h0
      have := h0 w (List.mem_range.2 hw)
      simpa using this
    rw [hf]
    have := itB_dec es n w
    rw [hf] at this
    cases hq : itB es (n + 1) w
    · rfl
    · exact absurd (this hq) (by simp)
/-- A stable and greatest set of colours. -/
structure Endless (n : Nat) (es : List Edge) (A : Nat → Bool) : Prop where
  fix : ∀ w, w < n → stepB es A w = A w
  top : ∀ G : Nat → Bool, (∀ w, G w = true → stepB es G w = true) → ∀ w, G w = true → A w = true
theorem itB_top {es : List Edge} {G : Nat → Bool} (hG : ∀ w, G w = true → stepB es G w = true) : ∀ k w, G w = true → itB es k w = true
  | 0, _, _ => rfl
  | k + 1, w, h => stepB_mono (itB_top hG k) w (hG w h)
theorem endless_it {es : List Edge} {n k : Nat} (h : ∀ w, w < n → itB es (k + 1) w = itB es k w) : Endless n es (itB es k) := ⟨h, fun G hG w hw => itB_top hG k w hw⟩
def flipE (es : List Edge) : List Edge := es.map fun e => (e.2, e.1)
/-- Is an edge lasting? A: colours to which endless ways lead; B: colours from which endless ways lead on. -/
def lastE (A B : Nat → Bool) (e : Edge) : Bool := A e.1 && B e.2
structure Lst (n : Nat) (es : List Edge) (A B : Nat → Bool) : Prop where
  hn : ∀ e ∈ es, e.1 < n ∧ e.2 < n
  a : Endless n (flipE es) A
  b : Endless n es B
section
variable {n : Nat} {es : List Edge} {A B : Nat → Bool}
theorem Lst.pred (L : Lst n es A B) {e : Edge} (he : e ∈ es) (h : lastE A B e = true) : ∃ e' ∈ es, lastE A B e' = true ∧ e'.2 = e.1 := by
  unfold lastE at h ⊢
  rw [Bool.and_eq_true] at h
  have h1 := L.a.fix e.1 (L.hn e he).1
  rw [h.1] at h1
  obtain ⟨x, hx, x1, x2⟩ := stepB_iff.1 h1
  obtain ⟨y, hy, rfl⟩ := List.mem_map.1 hx
  refine ⟨y, hy, ?_, x1⟩
  rw [Bool.and_eq_true]
  refine ⟨x2, ?_⟩
  rw [show y.2 = e.1 from x1, ← L.b.fix e.1 (L.hn e he).1]
  exact stepB_iff.2 ⟨e, he, rfl, h.2⟩
theorem Lst.succ (L : Lst n es A B) {e : Edge} (he : e ∈ es) (h : lastE A B e = true) : ∃ e' ∈ es, lastE A B e' = true ∧ e'.1 = e.2 := by
  unfold lastE at h ⊢
  rw [Bool.and_eq_true] at h
  have h1 := L.b.fix e.2 (L.hn e he).2
  rw [h.2] at h1
  obtain ⟨y, hy, y1, y2⟩ := stepB_iff.1 h1
  refine ⟨y, hy, ?_, y1⟩
  rw [Bool.and_eq_true]
  refine ⟨?_, y2⟩
  rw [show y.1 = e.2 from y1, ← L.a.fix e.2 (L.hn e he).2]
  exact stepB_iff.2 ⟨(e.2, e.1), List.mem_map.2 ⟨e, he, rfl⟩, rfl, h.1⟩
/-- Each stable set of edges is lasting. -/
theorem Lst.top (L : Lst n es A B) {Q : Edge → Bool} (hp : ∀ e ∈ es, Q e = true → ∃ e' ∈ es, Q e' = true ∧ e'.2 = e.1) (hs : ∀ e ∈ es, Q e = true → ∃ e' ∈ es, Q e' = true ∧ e'.1 = e.2) {e : Edge} (he : e ∈ es) (h : Q e = true) : lastE A B e = true := by
  unfold lastE
  rw [Bool.and_eq_true]
  constructor
  · refine L.a.top (fun w => es.any fun e => Q e && e.1 == w) (fun w hw => ?_) e.1 (List.any_eq_true.2 ⟨e, he, by simp [h]⟩)
    obtain ⟨x, hx, h2⟩ := List.any_eq_true.1 hw
    simp at h2
    obtain ⟨y, hy, y1, y2⟩ := hp x hx h2.1
    refine stepB_iff.2 ⟨(y.2, y.1), List.mem_map.2 ⟨y, hy, rfl⟩, by simp [y2, h2.2], List.any_eq_true.2 ⟨y, hy, by simp [y1]⟩⟩
  · refine L.b.top (fun w => es.any fun e => Q e && e.2 == w) (fun w hw => ?_) e.2 (List.any_eq_true.2 ⟨e, he, by simp [h]⟩)
    obtain ⟨x, hx, h2⟩ := List.any_eq_true.1 hw
    simp at h2
    obtain ⟨y, hy, y1, y2⟩ := hs x hx h2.1
    refine stepB_iff.2 ⟨y, hy, by simp [y2, h2.2], List.any_eq_true.2 ⟨y, hy, by simp [y1]⟩⟩
/-- A colour that lies on an endless way in both directions is that of a lasting edge. -/
theorem Lst.word (L : Lst n es A B) {w : Nat} (hw : w < n) : (A w && B w) = true ↔ (∃ e ∈ es, lastE A B e = true ∧ (e.1 = w ∨ e.2 = w)) := by
  rw [Bool.and_eq_true]
  constructor
  · rintro ⟨h1, h2⟩
    have h3 := L.b.fix w hw
    rw [h2] at h3
    obtain ⟨y, hy, y1, y2⟩ := stepB_iff.1 h3
    refine ⟨y, hy, ?_, .inl y1⟩
    unfold lastE
    rw [y1, h1, y2]; rfl
  · rintro ⟨e, he, h, q⟩
    rcases q with rfl | rfl
    · have h' := h
      unfold lastE at h
      rw [Bool.and_eq_true] at h
      refine ⟨h.1, ?_⟩
      rw [← L.b.fix e.1 hw]
      exact stepB_iff.2 ⟨e, he, rfl, h.2⟩
    · unfold lastE at h
      rw [Bool.and_eq_true] at h
      refine ⟨?_, h.2⟩
      rw [← L.a.fix e.2 hw]
      exact stepB_iff.2 ⟨(e.2, e.1), List.mem_map.2 ⟨e, he, rfl⟩, rfl, h.1⟩
end
end Go.Proofs.Ytnamnpbkiibadaa.Cl

/- Columns: the plain law (cell by cell, and layer by layer). No claim is stated here. -/
set_option linter.unusedVariables false
set_option linter.unusedSimpArgs false
namespace Go.Proofs.Ytnamnpbkiibadaa.Cl
open Go
/-- All sides of the tiles are colours. -/
def TS (c : Int) (ts : List Tile) : Prop := 1 ≤ c ∧ ∀ t ∈ ts, ∀ k, k < 4 → 0 ≤ sd t k ∧ sd t k < c
theorem setOK.ts {c : Int} {ts : List Tile} (h : setOK c ts) : TS c ts := by
  refine ⟨h.1.1, fun t ht k hk => ?_⟩
  obtain ⟨i, hi, rfl⟩ := List.getElem_of_mem ht
  have := (h.2.2 i hi).1
  rw [tat_at (n := (i : Int)) (t := ts[i]) (by rw [Int.toNat_natCast]; exact List.getElem?_eq_getElem hi)] at this
  unfold tileok at this
  simp only [Bool.and_eq_true, decide_eq_true_eq] at this
  match k, hk with
  | 0, _ => show 0 ≤ ts[i].1 ∧ ts[i].1 < c; omega
  | 1, _ => show 0 ≤ ts[i].2.1 ∧ ts[i].2.1 < c; omega
  | 2, _ => show 0 ≤ ts[i].2.2.1 ∧ ts[i].2.2.1 < c; omega
  | 3, _ => show 0 ≤ ts[i].2.2.2 ∧ ts[i].2.2.2 < c; omega
section
variable (c : Int) (ts : List Tile)
def colP : Nat → Int → Int → Int → List (Int × Int)
  | 0, _, l, r => [(l, r)]
  | m + 1, s, l, r => ts.flatMap fun t => if 0 ≤ s ∧ s ≠ sd t 1 then [] else colP m (sd t 3) (l * c + sd t 0) (r * c + sd t 2)
/-- The program's columns: west word, east word, north colour. -/
def colI (h : Nat) : Nat → Int → Int → Int → Int → List (Int × Int × Int)
  | 0, top, _, l, r => [(l, r, top)]
  | m + 1, top, last, l, r => ts.flatMap fun t => if m + 1 < h ∧ sd t 1 ≠ last then [] else colI h m (if m + 1 = h then sd t 1 else top) (sd t 3) (l * c + sd t 0) (r * c + sd t 2)
def layS (x : Int × Int × Int) : List (Int × Int × Int) := ts.flatMap fun t => if 0 ≤ x.2.2 ∧ x.2.2 ≠ sd t 1 then [] else [(x.1 * c + sd t 0, x.2.1 * c + sd t 2, sd t 3)]
def lay (l : List (Int × Int × Int)) : List (Int × Int × Int) := l.flatMap (layS c ts)
def layN : Nat → List (Int × Int × Int) → List (Int × Int × Int)
  | 0, l => l
  | m + 1, l => layN m (lay c ts l)
def chain : Nat → Int × Int × Int → List (Int × Int × Int)
  | 0, x => [x]
  | m + 1, x => (layS c ts x).flatMap (chain m)
end
def pr (x : Int × Int × Int) : Int × Int := (x.1, x.2.1)
variable {c : Int} {ts : List Tile}
theorem fm_congr {α β : Type} {l : List α} {f g : α → List β} (h : ∀ x ∈ l, f x = g x) : l.flatMap f = l.flatMap g := by
  induction l with
  | nil => rfl
  | cons a l ih => rw [List.flatMap_cons, List.flatMap_cons, h a (by simp), ih fun x hx => h x (by simp [hx])]
theorem layN_chain : ∀ (m : Nat) (l : List (Int × Int × Int)), layN c ts m l = l.flatMap (chain c ts m)
  | 0, l => by
    rw [layN]
    induction l with
    | nil => rfl
    | cons a l ih => rw [List.flatMap_cons, ← ih]; rfl
  | m + 1, l => by
    rw [layN, layN_chain m, lay, List.flatMap_assoc]
    rfl
theorem layN_succ : ∀ (m : Nat) (l : List (Int × Int × Int)), layN c ts (m + 1) l = lay c ts (layN c ts m l)
  | 0, l => rfl
  | m + 1, l => by rw [layN, layN_succ m]; rfl
theorem chain_pr : ∀ (m : Nat) (x : Int × Int × Int), (chain c ts m x).map pr = colP c ts m x.2.2 x.1 x.2.1
  | 0, x => rfl
  | m + 1, x => by
    rw [chain, colP, layS, List.flatMap_assoc, List.map_flatMap]
    refine fm_congr fun t _ => ?_
    by_cases h : 0 ≤ x.2.2 ∧ x.2.2 ≠ sd t 1
    · rw [if_pos h, if_pos h]; rfl
    · rw [if_neg h, if_neg h, List.flatMap_cons, List.flatMap_nil, List.append_nil]
      exact chain_pr m _
theorem lay_pr (h : Nat) : (layN c ts h [(0, 0, -1)]).map pr = colP c ts h (-1) 0 0 := by
  rw [layN_chain, List.flatMap_cons, List.flatMap_nil, List.append_nil]
  exact chain_pr h _
theorem colI_pr (T : TS c ts) (h : Nat) : ∀ (m : Nat) (top last l r : Int), m ≤ h → (m < h → 0 ≤ last) → (colI c ts h m top last l r).map pr = colP c ts m (if m = h then -1 else last) l r
  | 0, top, last, l, r, _, _ => rfl
  | m + 1, top, last, l, r, hm, hl => by
    rw [colI, colP, List.map_flatMap]
    refine fm_congr fun t ht => ?_
    have h3 := T.2 t ht 3 (by omega)
    by_cases e : m + 1 = h
    · rw [if_neg (by omega), if_pos e, if_neg (by omega), colI_pr T h m _ _ _ _ (by omega) (fun _ => h3.1), if_neg (by omega)]
    · simp only [if_neg e]
      by_cases q : sd t 1 = last
      · rw [if_neg (by omega), if_neg (by omega), colI_pr T h m _ _ _ _ (by omega) (fun _ => h3.1), if_neg (by omega)]
      · rw [if_pos (by omega), if_pos ⟨hl (by omega), fun f => q f.symm⟩]; rfl
theorem colP_bound (T : TS c ts) : ∀ (m : Nat) (s l r b : Int), 0 ≤ l ∧ l < b → 0 ≤ r ∧ r < b → ∀ p ∈ colP c ts m s l r, (0 ≤ p.1 ∧ p.1 < b * c ^ m) ∧ 0 ≤ p.2 ∧ p.2 < b * c ^ m
  | 0, s, l, r, b, hl, hr, p, hp => by
    simp only [colP, List.mem_singleton] at hp
    subst hp
    simpa using ⟨hl, hr⟩
  | m + 1, s, l, r, b, hl, hr, p, hp => by
    rw [colP] at hp
    obtain ⟨t, ht, hp⟩ := List.mem_flatMap.1 hp
    split at hp
    · cases hp
    · have h0 := T.2 t ht 0 (by omega)
      have h2 := T.2 t ht 2 (by omega)
      have hc := T.1
      have key : ∀ x d : Int, 0 ≤ x ∧ x < b → 0 ≤ d ∧ d < c → 0 ≤ x * c + d ∧ x * c + d < b * c := fun x d hx hd => by
        have h1 : 0 ≤ x * c := Int.mul_nonneg hx.1 (by omega)
        have h2 : (x + 1) * c ≤ b * c := Int.mul_le_mul_of_nonneg_right (by omega) (by omega)
        rw [Int.add_mul, Int.one_mul] at h2
        omega
      have := colP_bound T m _ _ _ (b * c) (key _ _ hl h0) (key _ _ hr h2) p hp
      rw [Int.pow_succ, Int.mul_comm (c ^ m), ← Int.mul_assoc]
      exact this
theorem colP_len : ∀ (m : Nat) (s l r : Int), (colP c ts m s l r).length ≤ ts.length ^ m
  | 0, s, l, r => by simp [colP]
  | m + 1, s, l, r => by
    rw [colP, List.length_flatMap, Nat.pow_succ, Nat.mul_comm]
    have : ∀ (l' : List Tile), (l'.map fun t => (if 0 ≤ s ∧ s ≠ sd t 1 then [] else colP c ts m (sd t 3) (l * c + sd t 0) (r * c + sd t 2)).length).sum ≤ l'.length * ts.length ^ m := fun l' => by
      induction l' with
      | nil => simp
      | cons a l' ih =>
        rw [List.map_cons, List.sum_cons, List.length_cons, Nat.add_mul, Nat.one_mul]
        have : (if 0 ≤ s ∧ s ≠ sd a 1 then [] else colP c ts m (sd a 3) (l * c + sd a 0) (r * c + sd a 2)).length ≤ ts.length ^ m := by
          split
          · simp
          · exact colP_len m _ _ _
        omega
    exact this ts
theorem lay_len (h : Nat) : (layN c ts h [(0, 0, -1)]).length = (colP c ts h (-1) 0 0).length := by rw [← lay_pr, List.length_map]
/-- The columns of a height: west words and east words. -/
def colsOf (c : Int) (ts : List Tile) (h : Int) : List (Int × Int) := colP c ts h.toNat (-1) 0 0
end Go.Proofs.Ytnamnpbkiibadaa.Cl

/- slices.Repeat of one element. No claim is stated here. -/
set_option linter.unusedVariables false
set_option linter.unusedSimpArgs false
namespace Go.Proofs.Ytnamnpbkiibadaa.Cl
open Go
theorem wrapU_of {n : Int} (h1 : 0 ≤ n) (h2 : n < 18446744073709551616) : IntKind.wrap .u64 n = n := by
  unfold IntKind.wrap
  simp [IntKind.bits, IntKind.signed] <;> omega
theorem andLow {x : Int} (h0 : 0 ≤ x) (h1 : x < 4294967296) : bitsOp .and .u64 x 4294967295 = x := by
  obtain ⟨n, rfl⟩ : ∃ n : Nat, x = n := ⟨x.toNat, by omega⟩
  have hn : n < 4294967296 := by omega
  have e : (BitVec.ofInt 64 (n : Int) &&& BitVec.ofInt 64 4294967295).toNat = n := by
    rw [BitVec.toNat_and, BitVec.toNat_ofInt, BitVec.toNat_ofInt]
    have a : ((n : Int) % ((2 ^ 64 : Nat) : Int)).toNat = n := by
      have : ((2 ^ 64 : Nat) : Int) = 18446744073709551616 := by decide
      omega
    have b : ((4294967295 : Int) % ((2 ^ 64 : Nat) : Int)).toNat = 2 ^ 32 - 1 := by decide
    rw [a, b, Nat.and_two_pow_sub_one_eq_mod]
    exact Nat.mod_eq_of_lt hn
  unfold bitsOp
  show IntKind.wrap .u64 (((BitVec.ofInt 64 (n : Int) &&& BitVec.ofInt 64 4294967295).toNat : Nat) : Int) = n
  rw [e]
  exact wrapU_of (by omega) (by omega)
theorem shrU {x : Int} (h0 : 0 ≤ x) (h1 : x < 4294967296) : shrI .u64 x 32 = 0 := by
  unfold shrI
  have : (2 : Int) ^ (min (32 : Int).toNat IntKind.u64.bits) = 4294967296 := by decide
  rw [this, Int.fdiv_eq_ediv_of_nonneg _ (by omega)]
  exact Int.ediv_eq_zero_of_lt h0 h1
theorem mul64_c {x y : Int} (x0 : 0 ≤ x) (x1 : x ≤ 1) (y0 : 0 ≤ y) (y1 : y < 4294967296) {h : H} {K : AVal → H → Prop} (hk : K (.tuple [.int .u64 0, .int .u64 (x * y)]) h) : callV SP i_math_bits_Mul64 [.int .u64 x, .int .u64 y] h K := by
  have hp : 0 ≤ x * y ∧ x * y < 4294967296 := by
    rcases (show x = 0 ∨ x = 1 by omega) with rfl | rfl <;> omega
  refine (show callV SP i_math_bits_Mul64 [.int .u64 x, .int .u64 y] h fun v h' => v = .tuple [.int .u64 0, .int .u64 (x * y)] ∧ h' = h from ?_).to (by rintro _ _ ⟨rfl, rfl⟩; exact hk)
  apply math_bits_Mul64_call
  unfold math_bits_Mul64_main
  rw [shrU x0 (by omega), shrU y0 y1, andLow x0 (by omega), andLow y0 y1, Int.zero_mul, Int.zero_mul, Int.mul_zero, wrapU_of (n := x * y) hp.1 (by omega), wrapU_of (n := 0) (by omega) (by omega), shrU hp.1 hp.2, Int.add_zero, wrapU_of (n := 0) (by omega) (by omega), shrU (x := 0) (by omega) (by omega), andLow (x := 0) (by omega) (by omega), Int.add_zero, wrapU_of (n := 0) (by omega) (by omega), shrU (x := 0) (by omega) (by omega), Int.add_zero, wrapU_of (n := 0) (by omega) (by omega)]
  exact ⟨by decide, by decide, by decide, by decide, by decide, rfl, rfl⟩
theorem mul_c {x y : Int} (x0 : 0 ≤ x) (x1 : x ≤ 1) (y0 : 0 ≤ y) (y1 : y < 4294967296) {h : H} {K : AVal → H → Prop} (hk : K (.tuple [.int .u64 0, .int .u64 (x * y)]) h) : callV SP i_math_bits_Mul [.int .u64 x, .int .u64 y] h K := by
  refine (show callV SP i_math_bits_Mul [.int .u64 x, .int .u64 y] h fun v h' => v = .tuple [.int .u64 0, .int .u64 (x * y)] ∧ h' = h from ?_).to (by rintro _ _ ⟨rfl, rfl⟩; exact hk)
  apply math_bits_Mul_call
  unfold math_bits_Mul_main
  refine mul64_c x0 x1 y0 y1 ?_
  exact ⟨_, rfl, _, rfl, _, rfl, _, rfl, rfl, rfl⟩
/-- A part of a view that is owned whole. -/
theorem cut_own {h : H} {s : Sl} {z : Nat} {cs : List AVal} (r : Ow h s z cs) {o : Nat} (ho : s.o = some o) {lo hi : Int} (h0 : 0 ≤ lo) (h1 : lo ≤ hi) (h2 : hi ≤ s.len) {K : Sl → Prop} (hk : K ⟨some o, s.n, lo.toNat * z, (hi - lo).toNat, z⟩) : cut s z lo hi h K := by
  obtain ⟨a, b⟩ | ⟨o', a, b, c, d, e⟩ := r.at_
  · rw [a] at ho; cases ho
  · have : o' = o := by rw [a] at ho; exact Option.some.inj ho
    subst this
    refine ⟨⟨h0, h1⟩, ?_, (fun q => by rw [a] at q; cases q), fun _ => ⟨b, ?_⟩, ?_⟩
    · unfold okS
      rw [a]
      simp only
      unfold cells
      rw [e]
      simp [r.len, d]
    · rw [c, d]
      have : hi.toNat * z ≤ s.len * z := Nat.mul_le_mul_right _ (by omega)
      omega
    · rw [a, c]; simpa using hk
theorem copy_own {h : H} {s : Sl} {cs : List AVal} (r : Ow h s 1 cs) {o : Nat} (ho : s.o = some o) {a m : Nat} (ham : a + m ≤ s.len) {x : Sl} {xs : List AVal} (hx : x.sz = 1) (hr : range h x.o x.n x.off (min x.len m * 1) = some xs) {K : Int → H → Prop}
    (hk : ∀ h', Ow h' s 1 (splice cs a xs) → But (some o) h h' → h'.length = h.length → K (min x.len m : Nat) h') : copyS ⟨some o, s.n, a, m, 1⟩ x 1 h K := by
  obtain ⟨p, q⟩ | ⟨o', p, b, c, d, e⟩ := r.at_
  · rw [p] at ho; cases ho
  · have : o' = o := by rw [p] at ho; exact Option.some.inj ho
    subst this
    have hxl := range_len hr
    have hcl := r.len
    have hol : o' < h.length := (List.getElem?_eq_some_iff.1 e).1
    have hsl : (splice cs a xs).length = cs.length := by unfold splice; simp; omega
    refine ⟨xs, h.set o' (.own (splice cs a xs)), hr, rfl, hx, ?_, hk _ ⟨by rw [hsl, hcl], .inr ⟨o', p, b, c, d, by simp [List.getElem?_set, hol]⟩⟩ ⟨by simp, fun i hi hn => by rw [List.getElem?_set, if_neg (fun e => hn (by rw [e]))]⟩ (by simp)⟩
    unfold putN owned
    simp only [e, Option.bind_some]
    rw [if_pos (by omega)]
    simp only [Option.bind_some]
    rw [if_pos (by omega)]
theorem rep_splice (v w : AVal) (i n k : Nat) (h : i + k ≤ n) : splice (List.replicate i v ++ List.replicate (n - i) w) i (List.replicate k v) = List.replicate (i + k) v ++ List.replicate (n - (i + k)) w := by
  unfold splice
  rw [List.take_left' (by simp), List.length_replicate, List.drop_append]
  simp only [List.length_replicate, List.drop_replicate]
  rw [show i - (i + k) = 0 by omega, show i + k - i = k by omega, show n - i - k = n - (i + k) by omega]
  simp [List.replicate_append_replicate]
theorem rep_take (v w : AVal) (i n k : Nat) (h : k ≤ i) : (List.replicate i v ++ List.replicate (n - i) w).take k = List.replicate k v := by
  rw [List.take_append_of_le_length (by simpa using h), List.take_replicate, Nat.min_eq_left h]
theorem ow_range {h : H} {s : Sl} {cs : List AVal} (r : Ow h s 1 cs) {o : Nat} (ho : s.o = some o) {k : Nat} (hk : k ≤ s.len) : range h (some o) s.n 0 k = some (cs.take k) := by
  obtain ⟨p, q⟩ | ⟨o', p, b, c, d, e⟩ := r.at_
  · rw [p] at ho; cases ho
  · have : o' = o := by rw [p] at ho; exact Option.some.inj ho
    subst this
    have hcl := r.len
    rw [range_of (xs := cs) (by unfold cells; simp [e, d, hcl]) (by omega)]
    simp
section
variable {h0 : H} {x : Sl} {n : Int}
theorem repeatI_c {v : Int} (r : Rd h0 x 1 [i64 v]) (n0 : 0 ≤ n) (n1 : n ≤ 1000000) : callS SP i_slices_Repeat_s_int64_int64_ [.sl x, i64 n] h0 fun s h' => Ow h' s 1 (List.replicate n.toNat (i64 v)) ∧ Fr h0.length s ∧ Ext h0 h' := by
  have hxl : x.len = 1 := by have := r.len; simp at this; omega
  have hx : x.sz = 1 ∧ range h0 x.o x.n x.off 1 = some [i64 v] := by
    obtain a | ⟨a, _, c⟩ := r.at_
    · omega
    · exact ⟨a, by rw [hxl] at c; exact c⟩
  apply slices_Repeat_s_int64_int64__call
  unfold slices_Repeat_s_int64_int64__main
  refine bif_dec (fun f => by omega) (fun _ => ?_)
  rw [wrapU_of (n := (x.len : Int)) (by omega) (by omega), wrapU_of n0 (by omega), hxl]
  refine mul_c (by decide) (by decide) n0 (by omega) ?_
  refine ⟨_, rfl, _, rfl, _, rfl, _, rfl, ?_⟩
  rw [show ((1 : Nat) : Int) * n = n by omega]
  refine bif_dec (fun f => by omega) (fun _ => ?_)
  refine bif_dec (fun f => by omega) (fun _ => ?_)
  rw [w64_of (by omega) (by omega)]
  refine mkS_ow n0 (by unfold lim; omega) fun s h7 os ls so e7 => ?_
  have x7 : Ext h0 h7 := by rw [e7]; exact Ext.app _ _
  have os' : Ow h7 s 1 (List.replicate n.toNat (i64 0)) := by simpa using os
  obtain ⟨N, rfl⟩ : ∃ N : Nat, n = N := ⟨n.toNat, by omega⟩
  rw [Int.toNat_natCast] at *
  have hsv : s = ⟨some h0.length, s.n, 0, s.len, 1⟩ := by
    obtain ⟨a, _⟩ | ⟨o, a, b, c, d, _⟩ := os'.at_
    · rw [a] at so; cases so
    · rw [show some h0.length = s.o from so.symm, show (0 : Nat) = s.off from c.symm, show (1 : Nat) = s.sz from b.symm]
  have hmin : min x.len s.len = min 1 N := by rw [hxl, ls]
  have rep0 : List.replicate N (i64 0) = List.replicate 0 (i64 v) ++ List.replicate (N - 0) (i64 0) := by simp
  have step : copyS ⟨some h0.length, s.n, 0, s.len, 1⟩ x 1 h7 fun n8 h9 => slices_Repeat_s_int64_int64__L0 SP (fun v_1 h' => ∃ b, v_1 = AVal.sl b ∧ Ow h' b 1 (List.replicate N (i64 v)) ∧ Fr h0.length b ∧ Ext h0 h') s n8 h9 := by
    refine copy_own os' so (by omega) hx.1 (xs := List.replicate (min 1 N) (i64 v)) ?_ fun h9 o9 b9 l9 => ?_
    · rw [hmin]
      have := x7.range hx.2
      by_cases hN : N = 0
      · subst hN
        have := range_sub this (a := 0) (b := 0) (by omega)
        simpa using this
      · rw [show min 1 N = 1 by omega]; exact this
    · rw [rep0, show splice _ 0 _ = _ from rep_splice _ _ 0 N (min 1 N) (by omega)] at o9
      rw [hmin, Nat.zero_add] at *
      have E9 : Ext h0 h9 := x7.but_ b9 (some_le (Nat.le_refl _))
      refine slices_Repeat_s_int64_int64__rule0 _ _ _ (fun i h => ∃ j : Nat, i = j ∧ j ≤ N ∧ (0 < N → 0 < j) ∧ Ow h s 1 (List.replicate j (i64 v) ++ List.replicate (N - j) (i64 0)) ∧ Ext h0 h) (fun i _ => (N - i).toNat) ?_ _ ⟨min 1 N, rfl, by omega, by omega, o9, E9⟩
      rintro X _ h ⟨j, rfl, hj, hp, o, e⟩ hX
      unfold slices_Repeat_s_int64_int64__b0 slices_Repeat_s_int64_int64__C0
      refine bif_dec (fun hi => ?_) (fun hi => ⟨_, rfl, ?_, (fun o' e' => by rw [so] at e'; cases e'; exact Nat.le_refl _), e⟩)
      · refine cut_own o so (by omega) (by omega) (Int.le_refl _) ?_
        refine cut_own o so (by omega) (by omega) (by omega) ?_
        simp only [Int.toNat_natCast, Nat.mul_one, Int.toNat_zero]
        rw [show ((s.len : Int) - (j : Int)).toNat = s.len - j by omega, show ((j : Int) - 0).toNat = j by omega]
        refine copy_own o so (by omega) rfl (xs := List.replicate (min j (s.len - j)) (i64 v)) ?_ fun h3 o3 b3 l3 => ?_
        · simp only [Nat.mul_one]
          rw [ow_range o so (by omega), rep_take _ _ _ _ _ (by omega)]
        · rw [rep_splice _ _ j N _ (by omega)] at o3
          simp only
          rw [w64_of (by omega) (by omega)]
          refine hX _ _ ⟨j + min j (s.len - j), by push_cast; rfl, by omega, fun _ => by omega, o3, e.but_ b3 (some_le (Nat.le_refl _))⟩ (by omega)
      · have : j = N := by omega
        subst this
        simpa using o
  rw [← hsv] at step
  exact step
end
end Go.Proofs.Ytnamnpbkiibadaa.Cl

/- Contracts of LastingTiles. No claim is stated here. -/
set_option linter.unusedVariables false
set_option linter.unusedSimpArgs false
namespace Go.Proofs.Ytnamnpbkiibadaa.Cl
open Go
noncomputable def sel0 {α : Type} (A : Prop) (l : List α) : List α := open Classical in if A then l else []
theorem sel0_yes {α : Type} {A : Prop} {l : List α} (h : A) : sel0 A l = l := by unfold sel0; rw [if_pos h]
theorem sel0_no {α : Type} {A : Prop} {l : List α} (h : ¬ A) : sel0 A l = [] := by unfold sel0; rw [if_neg h]
theorem pushI2 {h : H} {s : Sl} {l : List Int} {x : Int} (r : Ow h s 1 (ic l)) (hl : (l.length : Int) + 1 ≤ lim) {K : Sl → H → Prop}
    (hk : ∀ s' h', Ow h' s' 1 (ic (l ++ [x])) → But s.o h h' → (∀ o, s'.o = some o → s.o = some o ∨ h.length ≤ o) → K s' h') : newS 1 1 [.int .i64 x] h fun t h1 => app s t 1 h1 K := by
  refine newS_ow (by rfl) fun t h1 ot tl to e1 => ?_
  have e1' : Ext h h1 := by rw [e1]; exact Ext.app _ _
  have := e1'.len
  have hsl := r.rd.ilen
  refine app_ow (by omega) (r.ext e1') ot.rd (by rw [tl, hsl]; exact_mod_cast hl) fun s' h' o' ln b k1 k2 => hk s' h' (by rw [ic_app]; exact o') ((e1'.but _).trans b) fun o e => ?_
  cases hq : s.o with
  | none => have := k2 hq o e; exact .inr (by omega)
  | some p => rw [k1 p hq] at e; exact .inl e
theorem Obj.same {h h' o cs} (x : Obj h o cs) (y : Obj h' o cs) {n : Nat} (hn : cs.length = n) : Cl.range h (some o) n 0 n = Cl.range h' (some o) n 0 n := (x.rangeE hn).trans (y.rangeE hn).symm
/-! ### lists of truth values -/
def bl (n : Nat) (A : Nat → Bool) : List Bool := (List.range n).map A
theorem bl_len (n A) : (bl n A).length = n := by simp [bl]
theorem bl_get {n : Nat} {A : Nat → Bool} {i : Nat} (h : i < n) : (bl n A)[i]? = some (A i) := by unfold bl; rw [List.getElem?_map, List.getElem?_range h]; rfl
theorem bl_congr {n : Nat} {A B : Nat → Bool} (h : ∀ w, w < n → A w = B w) : bl n A = bl n B := by
  unfold bl
  exact List.map_congr_left fun w hw => h w (List.mem_range.1 hw)
theorem bl_set {n : Nat} {A : Nat → Bool} {k : Nat} {v : Bool} : ((bl n A).map AVal.bool).set k (.bool v) = (bl n fun w => if w = k then v else A w).map .bool := by
  rw [← List.map_set]
  congr 1
  apply List.ext_getElem (by simp [bl])
  intro i h1 h2
  rw [List.getElem_set]
  simp only [bl, List.getElem_map, List.getElem_range]
  by_cases e : k = i
  · rw [if_pos e, if_pos e.symm]
  · rw [if_neg e, if_neg fun f => e f.symm]
theorem bl_false (n : Nat) : (List.replicate n [AVal.bool false]).flatten = (bl n fun _ => false).map .bool := by
  induction n with
  | zero => rfl
  | succ n ih =>
    unfold bl at *
    rw [List.replicate_succ', List.flatten_append, ih, List.range_succ, List.map_append, List.map_append]
    rfl
theorem bl_rep (n : Nat) (b : Bool) : List.replicate n (AVal.bool b) = (bl n fun _ => b).map .bool := by
  unfold bl
  apply List.ext_getElem (by simp)
  intro i h1 h2
  simp
theorem Rd.ldBl {h : H} {s : Sl} {n : Nat} {A : Nat → Bool} (r : Rd h s 1 ((bl n A).map .bool)) {i : Int} (h0 : 0 ≤ i) (h1 : i < n) {K : Bool → Prop} (hk : K (A i.toNat)) : ixS s 1 i fun p => Cl.ldB p h K :=
  r.ldB h0 (by rw [bl_len]; exact h1) fun x hx => by rw [bl_get (by omega)] at hx; cases hx; exact hk
theorem Ow.blen {h : H} {s : Sl} {n : Nat} {A : Nat → Bool} (r : Ow h s 1 ((bl n A).map .bool)) : s.len = n := by have := r.len; rw [List.length_map, bl_len] at this; omega
theorem Ow.stBl {h : H} {s : Sl} {n : Nat} {A : Nat → Bool} (r : Ow h s 1 ((bl n A).map .bool)) {i : Int} (h0 : 0 ≤ i) (h1 : i < n) (v : Bool) {K : H → Prop}
    (hk : ∀ h', Ow h' s 1 ((bl n fun w => if w = i.toNat then v else A w).map .bool) → But s.o h h' → h'.length = h.length → K h') : ixS s 1 i fun p => Cl.st1 p (.bool v) h K :=
  r.stC h0 (by rw [r.blen]; exact h1) _ fun h' o b l => hk h' (by rw [← bl_set]; exact o) b l
/-! ### ways without end over tiles -/
def edT (ts : List Tile) (f g : Nat) : List Edge := ts.map fun t => ((sd t f).toNat, (sd t g).toNat)
theorem stepB_take {es : List Edge} {A : Nat → Bool} {j : Nat} (h : j < es.length) (w : Nat) : stepB (es.take (j + 1)) A w = (stepB (es.take j) A w || (es[j].1 == w && A es[j].2)) := by
  unfold stepB
  rw [List.take_succ_eq_append_getElem h, List.any_append]
  simp
theorem edT_lt {c : Int} {ts : List Tile} (T : TS c ts) {f g : Nat} (hf : f < 4) (hg : g < 4) : ∀ e ∈ edT ts f g, e.1 < c.toNat ∧ e.2 < c.toNat := fun e he => by
  obtain ⟨t, ht, rfl⟩ := List.mem_map.1 he
  have h1 := T.2 t ht f hf
  have h2 := T.2 t ht g hg
  exact ⟨by simp only []; omega, by simp only []; omega⟩
section
variable {h0 : H} {c : Int} {s : Sl} {ts : List Tile}
/-! ### the lasting tiles -/
def lastT (c : Int) (ts : List Tile) (i : Nat) : Bool := lastE (itB (edT ts 2 0) c.toNat) (itB (edT ts 0 2) c.toNat) ((sd (tat ts i) 0).toNat, (sd (tat ts i) 2).toNat)
def lastL (c : Int) (ts : List Tile) (n : Nat) : List Int := ((List.range n).filter (lastT c ts)).map fun (i : Nat) => (i : Int)
theorem flip_edT (ts : List Tile) : flipE (edT ts 0 2) = edT ts 2 0 := by unfold flipE edT; rw [List.map_map]; rfl
theorem lst_tiles (T : TS c ts) : Lst c.toNat (edT ts 0 2) (itB (edT ts 2 0) c.toNat) (itB (edT ts 0 2) c.toNat) := by
  have a := edT_lt T (f := 0) (g := 2) (by omega) (by omega)
  have b := edT_lt T (f := 2) (g := 0) (by omega) (by omega)
  refine ⟨a, ?_, endless_it (fun w hw => itB_end (fun e he => (a e he).2) w hw)⟩
  rw [flip_edT]
  exact endless_it (fun w hw => itB_end (fun e he => (b e he).2) w hw)
theorem lastL_len (n : Nat) : (lastL c ts n).length ≤ n := by
  unfold lastL
  rw [List.length_map]
  have := List.length_filter_le (lastT c ts) (List.range n)
  rwa [List.length_range] at this
theorem lastL_succ (n : Nat) : lastL c ts (n + 1) = if lastT c ts n then lastL c ts n ++ [(n : Int)] else lastL c ts n := by
  unfold lastL
  rw [List.range_succ, List.filter_append, List.map_append]
  by_cases h : lastT c ts n = true
  · rw [if_pos h, List.filter_cons_of_pos h]; rfl
  · rw [if_neg h, List.filter_cons_of_neg h]; simp
noncomputable def F_LastingTiles_0 (c : Int) (ts : List Tile) : List Int := sel0 (setOK c ts) (lastL c ts ts.length)
end
end Go.Proofs.Ytnamnpbkiibadaa.Cl

/- The program's strips: what the search of columns does. No claim is stated here. -/
set_option linter.unusedVariables false
set_option linter.unusedSimpArgs false
namespace Go.Proofs.Ytnamnpbkiibadaa.Cl
open Go
def c3 (l : List (Int × Int × Int)) : List AVal := (l.map fun x => [i64 x.1, i64 x.2.1, i64 x.2.2]).flatten
theorem c3_app (l m) : c3 (l ++ m) = c3 l ++ c3 m := by simp [c3]
theorem c3_len : ∀ l, (c3 l).length = l.length * 3
  | [] => rfl
  | a :: l => by
    have := c3_len l
    unfold c3 at *
    rw [List.map_cons, List.flatten_cons, List.length_append, this, List.length_cons]
    simp; omega
def StripC (c : Int) (s : Sl) (H w : Int) (q : Sl) : List AVal := [i64 c, .sl s, i64 H, i64 w, .sl q]
theorem pow_small4 {c : Int} {n : Nat} (h0 : 1 ≤ c) (h1 : c ≤ 6) (hn : n ≤ 4) : 1 ≤ c ^ n ∧ c ^ n ≤ 1296 := by
  have hc : c = 1 ∨ c = 2 ∨ c = 3 ∨ c = 4 ∨ c = 5 ∨ c = 6 := by omega
  have hm : n = 0 ∨ n = 1 ∨ n = 2 ∨ n = 3 ∨ n = 4 := by omega
  rcases hc with rfl | rfl | rfl | rfl | rfl | rfl <;> rcases hm with rfl | rfl | rfl | rfl | rfl <;> decide
theorem pow_step {c l d : Int} {j : Nat} (hc : 1 ≤ c) (hl : 0 ≤ l ∧ l < c ^ j) (hd : 0 ≤ d ∧ d < c) : 0 ≤ l * c + d ∧ l * c + d < c ^ (j + 1) := by
  have h1 : 0 ≤ l * c := Int.mul_nonneg hl.1 (by omega)
  have h2 : (l + 1) * c ≤ c ^ j * c := Int.mul_le_mul_of_nonneg_right (by omega) (by omega)
  rw [Int.add_mul, Int.one_mul] at h2
  rw [Int.pow_succ]
  omega
structure SEnv (h : H) (op ot oh oe os : Nat) (c : Int) (s : Sl) (H_ : Nat) : Prop where
  vp : Var h op (.ptr ⟨some os, 5, 0⟩)
  vt : Obj h ot (SetC c s)
  vh : Var h oh (i64 H_)
  ve : Var h oe (.func i_impl_newStrip_1 [.ptr (pt op), .ptr ⟨some ot, 2, 0⟩, .ptr (pt oh), .ptr (pt oe)])
theorem SEnv.chg {P : Nat → Prop} {h h' : H} {op ot oh oe os : Nat} {c : Int} {s : Sl} {H_ : Nat} (e : SEnv h op ot oh oe os c s H_) (x : Chg P h h') (hn : ¬ P op ∧ ¬ P ot ∧ ¬ P oh ∧ ¬ P oe) : SEnv h' op ot oh oe os c s H_ :=
  ⟨e.vp.chg x hn.1, e.vt.chg x hn.2.1, e.vh.chg x hn.2.2.1, e.ve.chg x hn.2.2.2⟩
section
variable {hb : H} {c w : Int} {s : Sl} {ts : List Tile} {H_ : Nat} {op ot oh oe os n1 : Nat}
theorem extRec (r : Rd hb s 4 (tcs ts)) (T : TS c ts) (hc : c ≤ 6) (hN : ts.length ≤ 16) (hH : 1 ≤ H_ ∧ H_ ≤ 4) (hn : op < n1 ∧ ot < n1 ∧ oh < n1 ∧ oe < n1 ∧ os < n1) (hd : op ≠ os ∧ ot ≠ os ∧ oh ≠ os ∧ oe ≠ os) (hbs : hb.length ≤ os) :
    ∀ (m : Nat) (top last l rr : Int) (cols : List (Int × Int × Int)) (q : Sl) (h : H), m ≤ H_ → (0 ≤ l ∧ l < c ^ (H_ - m)) → (0 ≤ rr ∧ rr < c ^ (H_ - m)) → SEnv h op ot oh oe os c s H_ → Obj h os (StripC c s H_ w q) → Ow h q 3 (c3 cols) → Fr n1 q → n1 ≤ h.length → cols.length ≤ 5000 → Ext hb h →
    callB SP i_impl_newStrip_1 [i64 top, i64 last, i64 l, i64 rr, i64 m, .ptr (pt op), .ptr ⟨some ot, 2, 0⟩, .ptr (pt oh), .ptr (pt oe)] h fun b h' =>
      b = decide ((cols ++ colI c ts H_ m top last l rr).length ≤ 5000) ∧ (b = true → ∃ q', Obj h' os (StripC c s H_ w q') ∧ Ow h' q' 3 (c3 (cols ++ colI c ts H_ m top last l rr)) ∧ Fr n1 q') ∧ Chg (fun i => i = os ∨ n1 ≤ i) h h'
  | 0, top, last, l, rr, cols, q, h, hm, hl, hr, e, o, oq, fq, hn1, hcl, x => by
    apply impl_newStrip_1_call
    unfold impl_newStrip_1_main
    refine bif_eq (fun _ => ?_) (fun f => absurd rfl f)
    refine e.vp.ldP ?_
    refine e.vp.ldP ⟨rfl, isPt_in (o.ldS rfl rfl ⟨rfl, ?_⟩)⟩
    refine newS_ow (by rfl) fun u h4 ou lu uo e4 => ?_
    have x4 : Ext h h4 := by rw [e4]; exact Ext.app _ _
    have l4 : h4.length = h.length + 1 := by rw [e4]; simp
    have ho := o.lt
    refine ⟨((o.ext x4).cellE (n := 5) (i := 4) rfl).trans (o.cellE (n := 5) (i := 4) rfl).symm, x4.cellE e.vp.cell, x4.cellE e.vp.cell, ?_⟩
    have hql : q.len = cols.length := by have := oq.len; rw [c3_len] at this; omega
    refine app_ow (by omega) (oq.ext x4) ou.rd (by rw [lu, hql]; unfold lim; omega) fun q' h6 oq' lq' b6 k1 k2 => ?_
    have hqn : ∀ i, i < n1 → q.o ≠ some i := fun i hi f => by have := fq i f; omega
    have vp6 : Var h6 op _ := (e.vp.ext x4).but b6 (hqn _ hn.1)
    have o6 : Obj h6 os _ := (o.ext x4).but b6 (hqn _ hn.2.2.2.2)
    have l6 := b6.1
    refine ⟨by rw [vp6.cell, e.vp.cell], rfl, isPt_in ?_⟩
    refine o6.st1 (n := 5) (i := 4) rfl (by omega) _ fun h7 o7 b7 l7 => ?_
    have vp7 : Var h7 op _ := vp6.but b7 (fun f => hd.1 (Option.some.inj f).symm)
    refine vp7.ldP ⟨rfl, isPt_in (o7.ldS rfl rfl ⟨_, rfl, ?_, fun _ => ⟨q', o7, ?_, ?_⟩, ?_⟩)⟩
    · have hcol : colI c ts H_ 0 top last l rr = [(l, rr, top)] := rfl
      rw [hcol, List.length_append, List.length_singleton, lq', lu, hql]
      congr 1
      apply propext
      constructor <;> intro f <;> omega
    · refine Ow.but ?_ b7 (.inl fun f => ?_)
      · rw [show colI c ts H_ 0 top last l rr = [(l, rr, top)] from rfl, c3_app]; exact oq'
      · cases hq : q.o with
        | none => have := k2 hq os f.symm; omega
        | some p => rw [k1 p hq] at f; exact hqn os hn.2.2.2.2 (by rw [hq, f])
    · intro i f
      cases hq : q.o with
      | none => have := k2 hq i f; omega
      | some p => rw [k1 p hq] at f; exact fq i (by rw [hq, f])
    · refine ((x4.chg _).trans (b6.chg fun i f => .inr (fq i f))).trans (b7.chg fun i f => .inl (Option.some.inj f).symm)
  | m + 1, top, last, l, rr, cols, q, h, hm, hl, hr, e, o, oq, fq, hn1, hcl, x => by
    have htl := r.tlen
    have hsn : s.len ≤ 16 := by omega
    have hcp := T.1
    apply impl_newStrip_1_call
    unfold impl_newStrip_1_main
    refine bif_eq (fun f => by omega) (fun _ => ?_)
    refine isPt_in (e.vt.ldS rfl rfl ?_)
    generalize hpc : (fun t : Tile => if m + 1 < H_ ∧ sd t 1 ≠ last then [] else colI c ts H_ m (if m + 1 = H_ then sd t 1 else top) (sd t 3) (l * c + sd t 0) (rr * c + sd t 2)) = pc
    have hall : colI c ts H_ (m + 1) top last l rr = ts.flatMap pc := by rw [← hpc]; rfl
    rw [hall]
    refine impl_newStrip_1_rule0 _ _ _ _ _ _ _ _ _ _ _ (fun i0 j g => ∃ k : Nat, j = k ∧ k ≤ ts.length ∧ (m + 1 ≠ H_ → i0 = top) ∧ (cols ++ (ts.take k).flatMap pc).length ≤ 5000 ∧ (∃ q', Obj g os (StripC c s H_ w q') ∧ Ow g q' 3 (c3 (cols ++ (ts.take k).flatMap pc)) ∧ Fr n1 q') ∧ Chg (fun i => i = os ∨ n1 ≤ i) h g) (fun _ j _ => (ts.length - j).toNat) ?_ _ _ ⟨0, rfl, by omega, fun _ => rfl, by simpa using hcl, ⟨q, o, by simpa using oq, fq⟩, Chg.refl _ _⟩
    rintro X i0 _ g ⟨k, rfl, hk, hi0, hlen, ⟨q', o', oq', fq'⟩, cg⟩ hX
    unfold impl_newStrip_1_b0 impl_newStrip_1_C0
    have hnp : ∀ i, i < n1 → i ≠ os → ¬ (i = os ∨ n1 ≤ i) := fun i h1 h2 f => by omega
    have eg := e.chg cg ⟨hnp _ hn.1 hd.1, hnp _ hn.2.1 hd.2.1, hnp _ hn.2.2.1 hd.2.2.1, hnp _ hn.2.2.2.1 hd.2.2.2⟩
    have xg : Ext hb g := x.chg_ cg fun i f => by omega
    have cgl := cg.1
    refine bif_dec (fun hi => ?_) (fun hi => ?_)
    rotate_left
    · rw [show k = ts.length by omega, List.take_length] at oq' hlen
      exact ⟨_, rfl, (decide_eq_true hlen).symm, fun _ => ⟨q', o', oq', fq'⟩, cg⟩
    have hk' : k < ts.length := by omega
    refine (r.ext xg).ldT (by omega) (by omega) fun t ht => ?_
    rw [Int.toNat_natCast] at ht
    have htm : t ∈ ts := List.mem_of_getElem? ht
    have htk : ts[k] = t := (List.getElem?_eq_some_iff.1 ht).2
    have hflat : (ts.take (k + 1)).flatMap pc = (ts.take k).flatMap pc ++ pc t := by
      rw [List.take_succ_eq_append_getElem hk', List.flatMap_append, htk]; simp
    have hrest : ts.flatMap pc = (ts.take k).flatMap pc ++ (pc t ++ (ts.drop (k + 1)).flatMap pc) := by
      have : ts = ts.take k ++ (t :: ts.drop (k + 1)) := by rw [← htk, ← List.drop_eq_getElem_cons hk', List.take_append_drop]
      conv => lhs; rw [this]
      rw [List.flatMap_append, List.flatMap_cons]
    refine newO_obj fun g3 og3 y3 m3 => ?_
    refine og3.stA fun g4 og4 b4 m4 => ?_
    have y4 : Ext g g4 := y3.but_ b4 (some_le (Nat.le_refl _))
    have y4l := y4.len
    have e4 := eg.chg (y4.chg fun _ => False) ⟨id, id, id, id⟩
    have o4 := o'.ext y4
    have oq4 := oq'.ext y4
    have b0 := T.2 t htm 0 (by omega)
    have b1 := T.2 t htm 1 (by omega)
    have b2 := T.2 t htm 2 (by omega)
    have b3 := T.2 t htm 3 (by omega)
    have hpow := pow_small4 (n := H_ - (m + 1)) hcp hc (by omega)
    have hpow2 := pow_small4 (n := H_ - (m + 1) + 1) hcp hc (by omega)
    have eH : H_ - m = H_ - (m + 1) + 1 := by omega
    have bl' := pow_step hcp hl b0
    have br' := pow_step hcp hr b2
    have bl0 : 0 ≤ l * c := Int.mul_nonneg hl.1 (by omega)
    have br0 : 0 ≤ rr * c := Int.mul_nonneg hr.1 (by omega)
    have ew1 : w64 (w64 (l * c) + sd t 0) = l * c + sd t 0 := by rw [w64_of (n := l * c) (by omega) (by omega), w64_of (by omega) (by omega)]
    have ew2 : w64 (w64 (rr * c) + sd t 2) = rr * c + sd t 2 := by rw [w64_of (n := rr * c) (by omega) (by omega), w64_of (by omega) (by omega)]
    -- one tile more
    have call : ∀ (tp : Int), tp = (if m + 1 = H_ then sd t 1 else top) → ¬ (m + 1 < H_ ∧ sd t 1 ≠ last) → viaF (.func i_impl_newStrip_1 [.ptr (pt op), .ptr ⟨some ot, 2, 0⟩, .ptr (pt oh), .ptr (pt oe)]) [i64 tp, i64 (sd t 3), i64 (w64 (w64 (l * c) + sd t 0)), i64 (w64 (w64 (rr * c) + sd t 2)), i64 (w64 (((m + 1 : Nat) : Int) - 1))] fun g20 ys21 => callB SP g20 ys21 g4 fun b h' =>
        bif !b then (∃ b', AVal.bool false = .bool b' ∧ b' = decide ((cols ++ ts.flatMap pc).length ≤ 5000) ∧ (b' = true → ∃ q', Obj h' os (StripC c s H_ w q') ∧ Ow h' q' 3 (c3 (cols ++ ts.flatMap pc)) ∧ Fr n1 q') ∧ Chg (fun i => i = os ∨ n1 ≤ i) h h')
        else X (impl_newStrip_1_e0 tp last l rr ((m + 1 : Nat) : Int) ⟨some ot, 2, 0⟩ (pt oh) (pt oe) s (s.len : Int) (w64 ((k : Int) + 1))) h' := fun tp htp hno => by
      refine via_func ?_
      have hpt : pc t = colI c ts H_ m tp (sd t 3) (l * c + sd t 0) (rr * c + sd t 2) := by rw [← hpc]; simp only; rw [if_neg hno, htp]
      rw [ew1, ew2, w64_of (by omega) (by omega), show ((m + 1 : Nat) : Int) - 1 = (m : Int) by omega]
      refine (extRec r T hc hN hH hn hd hbs m tp (sd t 3) (l * c + sd t 0) (rr * c + sd t 2) (cols ++ (ts.take k).flatMap pc) q' g4 (by omega) (by rw [eH]; exact bl') (by rw [eH]; exact br') e4 o4 oq4 fq' (by omega) hlen (xg.trans y4)).to ?_
      rintro b g5 ⟨hb5, hq5, cg5⟩
      rw [← hpt] at hb5 hq5
      have CG : Chg (fun i => i = os ∨ n1 ≤ i) h g5 := (cg.trans (y4.chg _)).trans cg5
      refine bif_not (fun hf => ⟨false, rfl, ?_, (fun f => by cases f), CG⟩) (fun hf => ?_)
      · rw [hf] at hb5
        have := of_decide_eq_false hb5.symm
        symm
        refine decide_eq_false fun f => this ?_
        rw [hrest] at f
        simp only [List.length_append] at f ⊢
        omega
      · rw [hf] at hb5
        have hle := of_decide_eq_true hb5.symm
        rw [w64_of (by omega) (by omega)]
        refine hX _ _ _ ⟨k + 1, by push_cast; rfl, by omega, fun f => by rw [htp, if_neg f], ?_, ?_, CG⟩ (by omega)
        · rw [hflat, ← List.append_assoc]; exact hle
        · rw [hflat, ← List.append_assoc]; exact hq5 hf
    have skip : m + 1 < H_ ∧ sd t 1 ≠ last → X (impl_newStrip_1_e0 i0 last l rr ((m + 1 : Nat) : Int) ⟨some ot, 2, 0⟩ (pt oh) (pt oe) s (s.len : Int) (w64 ((k : Int) + 1))) g4 := fun hs => by
      have hpt : pc t = [] := by rw [← hpc]; simp only; rw [if_pos hs]
      rw [w64_of (by omega) (by omega)]
      refine hX _ _ _ ⟨k + 1, by push_cast; rfl, by omega, hi0, ?_, ⟨q', o4, ?_, fq'⟩, cg.trans (y4.chg _)⟩ (by omega)
      · rw [hflat, hpt, List.append_nil]; exact hlen
      · rw [hflat, hpt, List.append_nil]; exact oq4
    refine e4.vh.ldI ?_
    refine bif_dec (fun hmh => ?_) (fun hmh => ?_)
    · refine og4.sdI (by omega) (by omega) ?_
      refine bif_ne (fun hq => skip ⟨by omega, hq⟩) (fun hq => ?_)
      refine e4.vh.ldI ?_
      refine bif_eq (fun f => by omega) (fun hne => ?_)
      refine e4.ve.ldV ?_
      refine og4.sdI (by omega) (by omega) ?_
      refine isPt_in (e4.vt.ldI rfl rfl ?_)
      refine og4.sdI (by omega) (by omega) ?_
      refine isPt_in (e4.vt.ldI rfl rfl ?_)
      refine og4.sdI (by omega) (by omega) ?_
      exact call i0 (by rw [if_neg (by omega)]; exact hi0 (by omega)) (fun f => f.2 hq)
    · refine e4.vh.ldI ?_
      refine bif_eq (fun hee => ?_) (fun f => by omega)
      refine og4.sdI (by omega) (by omega) ?_
      refine e4.ve.ldV ?_
      refine og4.sdI (by omega) (by omega) ?_
      refine isPt_in (e4.vt.ldI rfl rfl ?_)
      refine og4.sdI (by omega) (by omega) ?_
      refine isPt_in (e4.vt.ldI rfl rfl ?_)
      refine og4.sdI (by omega) (by omega) ?_
      exact call (sd t 1) (by rw [if_pos (by omega)]) (fun f => by omega)
end
end Go.Proofs.Ytnamnpbkiibadaa.Cl

/- Contracts of the program's strips and of CountColumns. No claim is stated here. -/
set_option linter.unusedVariables false
set_option linter.unusedSimpArgs false
namespace Go.Proofs.Ytnamnpbkiibadaa.Cl
open Go
def colsI (c : Int) (ts : List Tile) (H_ : Nat) : List (Int × Int × Int) := colI c ts H_ H_ 0 0 0 0
theorem colsI_pr {c : Int} {ts : List Tile} (T : TS c ts) (H_ : Nat) : (colsI c ts H_).map pr = colP c ts H_ (-1) 0 0 := by
  unfold colsI
  rw [colI_pr T H_ H_ 0 0 0 0 (Nat.le_refl _) (fun f => by omega), if_pos rfl]
theorem colsI_len {c : Int} {ts : List Tile} (T : TS c ts) (H_ : Nat) : (colsI c ts H_).length = (colP c ts H_ (-1) 0 0).length := by rw [← colsI_pr T, List.length_map]
open Classical in
noncomputable def codeS (c : Int) (ts : List Tile) (h : Int) : Int := if codeOf (setOK c ts) (1 ≤ h ∧ h ≤ 4) = 0 then (if c ^ h.toNat > 700 ∨ 5000 < (colsOf c ts h).length then 3 else 0) else codeOf (setOK c ts) (1 ≤ h ∧ h ≤ 4)
theorem codeS_no {c : Int} {ts : List Tile} {h : Int} (q : codeOf (setOK c ts) (1 ≤ h ∧ h ≤ 4) ≠ 0) : codeS c ts h = codeOf (setOK c ts) (1 ≤ h ∧ h ≤ 4) := by unfold codeS; rw [if_neg q]
theorem codeS_3 {c : Int} {ts : List Tile} {h : Int} (q : codeOf (setOK c ts) (1 ≤ h ∧ h ≤ 4) = 0) (t : c ^ h.toNat > 700 ∨ 5000 < (colsOf c ts h).length) : codeS c ts h = 3 := by unfold codeS; rw [if_pos q, if_pos t]
theorem codeS_0 {c : Int} {ts : List Tile} {h : Int} (q : codeOf (setOK c ts) (1 ≤ h ∧ h ≤ 4) = 0) (t : ¬ (c ^ h.toNat > 700 ∨ 5000 < (colsOf c ts h).length)) : codeS c ts h = 0 := by unfold codeS; rw [if_pos q, if_neg t]
/-- What holds of a set and a height without an error. -/
structure StripOK (c : Int) (ts : List Tile) (h : Int) : Prop where
  set : setOK c ts
  hh : 1 ≤ h ∧ h ≤ 4
  pw : c ^ h.toNat ≤ 700
  ln : (colsOf c ts h).length ≤ 5000
theorem codeS_ok {c : Int} {ts : List Tile} {h : Int} (q : codeS c ts h = 0) : StripOK c ts h := by
  by_cases a : codeOf (setOK c ts) (1 ≤ h ∧ h ≤ 4) = 0
  · have b := codeOf_zero a
    by_cases d : c ^ h.toNat > 700 ∨ 5000 < (colsOf c ts h).length
    · rw [codeS_3 a d] at q; cases q
    · exact ⟨b.1, b.2, by omega, by omega⟩
  · rw [codeS_no a] at q; exact absurd q a
theorem StripOK.code {c : Int} {ts : List Tile} {h : Int} (k : StripOK c ts h) : codeS c ts h = 0 := codeS_0 (codeOf_yes k.set k.hh) fun f => by
  have := k.pw
  have := k.ln
  omega
/-- A strip in the heap. -/
structure Strip (h : H) (n : Nat) (c : Int) (s : Sl) (ts : List Tile) (H_ : Nat) (os : Nat) (q : Sl) : Prop where
  o : Obj h os (StripC c s H_ (c ^ H_) q)
  cols : Ow h q 3 (c3 (colsI c ts H_))
  fr : Fr n q
  os_ : n ≤ os
  ne : q.o ≠ some os
theorem Strip.ext {h h' : H} {n : Nat} {c : Int} {s : Sl} {ts : List Tile} {H_ os : Nat} {q : Sl} (k : Strip h n c s ts H_ os q) (x : Ext h h') : Strip h' n c s ts H_ os q := ⟨k.o.ext x, k.cols.ext x, k.fr, k.os_, k.ne⟩
theorem Strip.le {h : H} {n m : Nat} {c : Int} {s : Sl} {ts : List Tile} {H_ os : Nat} {q : Sl} (k : Strip h n c s ts H_ os q) (hm : m ≤ n) : Strip h m c s ts H_ os q := ⟨k.o, k.cols, k.fr.le hm, Nat.le_trans hm k.os_, k.ne⟩
theorem Strip.len {h : H} {n : Nat} {c : Int} {s : Sl} {ts : List Tile} {H_ os : Nat} {q : Sl} (k : Strip h n c s ts H_ os q) : q.len = (colsI c ts H_).length := by have := k.cols.len; rw [c3_len] at this; omega
section
variable {h0 : H} {c : Int} {s : Sl} {ts : List Tile} {H_ : Nat}
theorem newStrip_c (r : Rd h0 s 4 (tcs ts)) (T : TS c ts) (hc : c ≤ 6) (hN : ts.length ≤ 16) (hH : 1 ≤ H_ ∧ H_ ≤ 4) :
    callV SP i_impl_newStrip [.agg (SetC c s), i64 H_] h0 fun v h' => ∃ p b, v = .tuple [.ptr p, .bool b] ∧ (b = true ↔ c ^ H_ ≤ 700 ∧ (colsI c ts H_).length ≤ 5000) ∧ (b = true → ∃ os q, p = ⟨some os, 5, 0⟩ ∧ Strip h' h0.length c s ts H_ os q) ∧ Ext h0 h' := by
  apply impl_newStrip_call
  unfold impl_newStrip_main
  refine newK_obj fun h1 o1 x1 l1 => ?_
  refine newO_var fun h3 v3 x3 l3 => ?_
  refine (o1.ext x3).ldA rfl ?_
  refine v3.ldI ⟨rfl, ?_⟩
  refine newK_obj fun h7 o7 x7 l7 => ?_
  refine newO_var fun h9 v9 x9 l9 => ?_
  refine v9.st _ fun h10 v10 b10 l10 => ?_
  have o7' : Obj h7 h3.length (StripC c s H_ 1 Sl.nil) := o7
  clear o7
  have X7 : Ext h0 h7 := (x1.trans x3).trans x7
  have x10 : Ext h7 h10 := x9.but_ b10 (some_le (by omega))
  have X10 := X7.trans x10
  have v3' := v3.ext (x7.trans x10)
  have o1' := o1.ext (x3.trans (x7.trans x10))
  refine v3'.ldI ?_
  refine impl_newStrip_rule0 _ _ _ _ _ _ (fun i h => ∃ k : Nat, i = k ∧ k ≤ H_ ∧ Obj h h3.length (StripC c s H_ (c ^ k) Sl.nil) ∧ Chg (fun i => i = h3.length) h10 h) (fun i _ => (H_ - i).toNat) ?_ _ ⟨0, rfl, by omega, by rw [Int.pow_zero]; exact o7'.ext x10, Chg.refl _ _⟩
  rintro X _ h ⟨k, rfl, hk, o, cg⟩ hX
  unfold impl_newStrip_b0 impl_newStrip_C0
  have hcp := T.1
  have vp := v10.chg cg (by omega)
  have vh := v3'.chg cg (by omega)
  have ot := o1'.chg cg (by omega)
  have xh : Ext h0 h := X10.chg_ cg fun i e => by omega
  have hl := cg.1
  refine bif_dec (fun hi => ?_) (fun hi => ?_)
  · refine vp.ldP ⟨rfl, isPt_in (o.ldI (i := 3) rfl rfl ?_)⟩
    refine isPt_in (ot.ldI rfl rfl ⟨rfl, isPt_in ?_⟩)
    refine o.st1 (n := 5) (i := 3) rfl (by omega) _ fun h' o' b' l' => ?_
    have hp := pow_small4 (n := k) hcp hc (by omega)
    have hp2 := pow_small4 (n := k + 1) hcp hc (by omega)
    rw [w64_of (n := (k : Int) + 1) (by omega) (by omega)]
    refine hX _ _ ⟨k + 1, by push_cast; rfl, by omega, ?_, cg.trans (b'.chg fun i e => (Option.some.inj e).symm)⟩ (by omega)
    have e : w64 (c ^ k * c) = c ^ (k + 1) := by
      have e2 : c ^ k * c = c ^ (k + 1) := (Int.pow_succ c k).symm
      rw [e2]
      exact w64_of (by omega) (by omega)
    rw [e] at o'
    exact o'
  have hkH : k = H_ := by omega
  subst hkH
  refine vp.ldP ⟨rfl, isPt_in (o.ldI (i := 3) rfl rfl ?_)⟩
  refine bif_dec (fun hg => ⟨_, _, rfl, ⟨fun f => by (cases f), fun f => by omega⟩, (fun f => by cases f), xh⟩) (fun hg => ?_)
  refine newO_var fun g3 ve xe le => ?_
  refine ve.st _ fun g4 ve4 be l4 => ?_
  have y4 : Ext h g4 := xe.but_ be (some_le (Nat.le_refl _))
  have vp4 := vp.ext y4
  refine vp4.ldP ?_
  refine ve4.ldV ?_
  refine (vh.ext y4).ldI ?_
  refine via_func ?_
  have y4l := y4.len
  refine (extRec (w := c ^ k) (n1 := g4.length) r T hc hN hH (op := h7.length) (ot := h0.length) (oh := h1.length) (oe := h.length) (os := h3.length) ⟨by omega, by omega, by omega, by omega, by omega⟩ ⟨by omega, by omega, by omega, by omega⟩ (by omega) k 0 0 0 0 [] Sl.nil g4 (Nat.le_refl _) (by rw [Nat.sub_self, Int.pow_zero]; decide) (by rw [Nat.sub_self, Int.pow_zero]; decide) ⟨vp4, ot.ext y4, vh.ext y4, ve4⟩ (o.ext y4) (Ow.nil _ _) (Fr.nil _) (Nat.le_refl _) (by simp) (xh.trans y4)).to ?_
  rintro b h10' ⟨hb, hq, cg'⟩
  rw [List.nil_append] at hb hq
  refine ⟨?_, ?_⟩
  · rw [(vp4.chg cg' (by omega)).cell, vp4.cell]
  · refine ⟨_, _, rfl, ?_, fun hbt => ?_, (xh.trans y4).chg_ cg' fun i e => by omega⟩
    · rw [hb, decide_eq_true_eq]
      exact ⟨fun f => ⟨by omega, f⟩, fun f => f.2⟩
    · obtain ⟨q', oq, wq, fq⟩ := hq hbt
      exact ⟨_, q', rfl, oq, wq, fq.le (by omega), by omega, fun e => by have := fq _ e; omega⟩
theorem stripOf_c (r : Rd h0 s 4 (tcs ts)) (sz : ts.length ≤ 1048576) {n : Int} :
    callV SP i_impl_stripOf [.agg (SetC c s), i64 n] h0 fun v h' => ∃ p, v = .tuple [.ptr p, i64 (codeS c ts n)] ∧ (codeS c ts n = 0 → ∃ os q, p = ⟨some os, 5, 0⟩ ∧ Strip h' h0.length c s ts n.toNat os q) ∧ Ext h0 h' := by
  apply impl_stripOf_call
  unfold impl_stripOf_main
  refine newK_obj fun h1 o1 x1 l1 => ?_
  refine newO_var fun h3 v3 x3 l3 => ?_
  have X3 := x1.trans x3
  have o3 := o1.ext x3
  refine o3.ldA rfl ?_
  refine (setCode_c (r.ext X3) (by omega) _ _ (1 ≤ n ∧ n ≤ 4) fun _ h x => ?_).to ?_
  · apply impl_stripOf_1_call
    unfold impl_stripOf_1_main
    refine (v3.ext x).ldI ?_
    refine within_k ?_
    exact ⟨_, rfl, by simp, Ext.refl _⟩
  rintro _ h5 ⟨rfl, x5⟩
  have X5 := X3.trans x5
  refine bif_ne (fun hq => ⟨_, by rw [codeS_no hq], (fun f => by rw [codeS_no hq] at f; exact absurd f hq), X5⟩) (fun hq => ?_)
  have hs := codeOf_zero hq
  have T := hs.1.ts
  obtain ⟨H_, rfl⟩ : ∃ H_ : Nat, n = H_ := ⟨n.toNat, by omega⟩
  refine (o3.ext x5).ldA rfl ?_
  refine (v3.ext x5).ldI ?_
  refine (newStrip_c (H_ := H_) (r.ext X5) T hs.1.1.2 hs.1.2.1 (by omega)).to ?_
  rintro _ h9 ⟨p, b, rfl, hb, hp, x9⟩
  refine ⟨_, rfl, _, rfl, _, rfl, _, rfl, ?_⟩
  have hlen := colsI_len T H_
  have hof : colsOf c ts (H_ : Int) = colP c ts H_ (-1) 0 0 := by unfold colsOf; rw [Int.toNat_natCast]
  refine bif_not (fun hf => ?_) (fun hf => ?_)
  · have h3 : codeS c ts (H_ : Int) = 3 := codeS_3 hq (by
      rw [Int.toNat_natCast, hof, ← hlen]
      refine Classical.byContradiction fun f => ?_
      have : b = true := hb.2 (by omega)
      rw [hf] at this; cases this)
    exact ⟨_, by rw [h3], (fun f => by rw [h3] at f; cases f), X5.trans x9⟩
  · have hh := hb.1 hf
    have h0' : codeS c ts (H_ : Int) = 0 := codeS_0 hq (by rw [Int.toNat_natCast, hof, ← hlen]; omega)
    refine ⟨_, by rw [h0'], fun _ => ?_, X5.trans x9⟩
    obtain ⟨os, q, e, k⟩ := hp hf
    exact ⟨os, q, e, by rw [Int.toNat_natCast]; exact k.le X5.len⟩
noncomputable def F_CountColumns_0 (c : Int) (ts : List Tile) (n : Int) : Int := open Classical in if codeS c ts n = 0 then ((colsOf c ts n).length : Int) else 0
end
end Go.Proofs.Ytnamnpbkiibadaa.Cl

/- Contracts of the reference's columns. No claim is stated here. -/
set_option linter.unusedVariables false
set_option linter.unusedSimpArgs false
namespace Go.Proofs.Ytnamnpbkiibadaa.Cl
open Go
def col3 (l : List (Int × Int × Int)) : List (List Int) := l.map fun x => [x.1, x.2.1, x.2.2]
theorem col3_len (l) : (col3 l).length = l.length := by simp [col3]
theorem col3_app (l m) : col3 (l ++ m) = col3 l ++ col3 m := by simp [col3]
theorem col3_row {l : List (Int × Int × Int)} {i : Nat} (h : i < l.length) : rw_ (col3 l) i = [l[i].1, l[i].2.1, l[i].2.2] := by
  unfold rw_ col3
  rw [List.getD_eq_getElem?_getD, List.getElem?_map, List.getElem?_eq_getElem h]; rfl
theorem NewSS.one {n : Nat} {h h' : H} {v u : Sl} {l : List Int} (ov : Ow h v 1 (ic l)) (fv : Fr n v) (x : Ext h h') (ou : Ow h' u 1 [.sl v]) (fu : ∀ o, u.o = some o → h.length ≤ o) (hn : n ≤ h.length) : NewSS n h' u [l] := by
  refine ⟨[v], rfl, ou, (fun o e => Nat.le_trans hn (fu o e)), fun i w l' a b => ?_, fun i j w w' hne a b => ?_, fun i w a o e e2 => ?_⟩
  · have hi : i = 0 := by have := (List.getElem?_eq_some_iff.1 a).1; simpa using this
    subst hi
    simp at a b
    subst a b
    exact ⟨ov.ext x, fv⟩
  · have hi : i = 0 := by have := (List.getElem?_eq_some_iff.1 a).1; simpa using this
    have hj : j = 0 := by have := (List.getElem?_eq_some_iff.1 b).1; simpa using this
    omega
  · have hi : i = 0 := by have := (List.getElem?_eq_some_iff.1 a).1; simpa using this
    subst hi
    simp at a
    subst a
    have := ov.lt e
    have := fu o e2
    omega
theorem fm_piece {α β : Type} (l : List α) (f : α → List β) {i : Nat} (hi : i < l.length) : l.flatMap f = (l.take i).flatMap f ++ (f l[i] ++ (l.drop (i + 1)).flatMap f) := by
  have e : l = l.take i ++ (l[i] :: l.drop (i + 1)) := by rw [← List.drop_eq_getElem_cons hi, List.take_append_drop]
  conv => lhs; rw [e]
  rw [List.flatMap_append, List.flatMap_cons]
theorem fm_take {α β : Type} (l : List α) (f : α → List β) {i : Nat} (hi : i < l.length) : (l.take (i + 1)).flatMap f = (l.take i).flatMap f ++ f l[i] := by
  rw [List.take_succ_eq_append_getElem hi, List.flatMap_append]; simp
abbrev lay0 : List (Int × Int × Int) := [(0, 0, -1)]
theorem lay_bound {c : Int} {ts : List Tile} (T : TS c ts) (k : Nat) : ∀ x ∈ layN c ts k lay0, (0 ≤ x.1 ∧ x.1 < c ^ k) ∧ 0 ≤ x.2.1 ∧ x.2.1 < c ^ k := fun x hx => by
  have : pr x ∈ colP c ts k (-1) 0 0 := by rw [← lay_pr]; exact List.mem_map.2 ⟨x, hx, rfl⟩
  have := colP_bound T k (-1) 0 0 1 (by omega) (by omega) _ this
  rw [Int.one_mul] at this
  exact this
section
variable {h0 : H} {c : Int} {s : Sl} {ts : List Tile} {H_ : Nat}
theorem l06Size_c (hc : 1 ≤ c) (hc6 : c ≤ 6) (hH : H_ ≤ 4) : callI SP .i64 i_spec_l06Size [.agg (SetC c s), i64 H_] h0 fun n h' => n = c ^ H_ ∧ Ext h0 h' := by
  apply spec_l06Size_call
  unfold spec_l06Size_main
  refine newK_obj fun h1 o1 x1 l1 => ?_
  refine spec_l06Size_rule0 _ _ _ _ (fun a i h => ∃ k : Nat, i = k ∧ k ≤ H_ ∧ a = c ^ k ∧ h1 = h) (fun _ i _ => (H_ - i).toNat) ?_ _ _ ⟨0, rfl, by omega, by simp, rfl⟩
  rintro X _ _ _ ⟨k, rfl, hk, rfl, rfl⟩ hX
  unfold spec_l06Size_b0 spec_l06Size_C0
  refine bif_dec (fun hi => ?_) (fun hi => ⟨_, rfl, by rw [show k = H_ by omega], x1⟩)
  refine isPt_in (o1.ldI rfl rfl ?_)
  have hp2 := pow_small4 (n := k + 1) hc hc6 (by omega)
  have e2 : c ^ k * c = c ^ (k + 1) := (Int.pow_succ c k).symm
  rw [w64_of (n := (k : Int) + 1) (by omega) (by omega)]
  refine hX _ _ _ ⟨k + 1, by push_cast; rfl, by omega, by rw [e2]; exact w64_of (by omega) (by omega), rfl⟩ (by omega)
theorem l06Columns_c (r : Rd h0 s 4 (tcs ts)) (T : TS c ts) (hc : c ≤ 6) (hN : ts.length ≤ 16) (hH : 1 ≤ H_ ∧ H_ ≤ 4) :
    callV SP i_spec_l06Columns [.agg (SetC c s), i64 H_] h0 fun v h' => ∃ u b, v = .tuple [.sl u, .bool b] ∧ (b = true ↔ (layN c ts H_ lay0).length ≤ 5000) ∧ (b = true → RdSS h' u (col3 (layN c ts H_ lay0))) ∧ Ext h0 h' := by
  have htl := r.tlen
  apply spec_l06Columns_call
  unfold spec_l06Columns_main
  refine newK_obj fun h1 o1 x1 l1 => ?_
  refine newS_ow (by rfl) fun v h3 ov lv vo e3 => ?_
  have x3 : Ext h1 h3 := by rw [e3]; exact Ext.app _ _
  have l3 : h3.length = h1.length + 1 := by rw [e3]; simp
  refine newS_ow (by rfl) fun u h5 ou lu uo e5 => ?_
  have x5 : Ext h3 h5 := by rw [e5]; exact Ext.app _ _
  have rd0 : RdSS h5 u (col3 lay0) := (NewSS.one (n := 0) (l := [0, 0, -1]) ov (fun o _ => Nat.zero_le _) x5 ou (fun o e => by rw [uo] at e; cases e; exact Nat.le_refl _) (Nat.zero_le _)).rd
  refine spec_l06Columns_rule0 _ _ _ _ (fun u i h => ∃ k : Nat, i = k ∧ k ≤ H_ ∧ RdSS h u (col3 (layN c ts k lay0)) ∧ (k = H_ → (layN c ts k lay0).length ≤ 5000) ∧ Ext h1 h) (fun _ i _ => (H_ - i).toNat) ?_ _ _ ⟨0, rfl, by omega, rd0, (fun _ => by simp [layN]), x3.trans x5⟩
  rintro X u _ h ⟨k, rfl, hk, rd, hkl, x⟩ hX
  unfold spec_l06Columns_b0 spec_l06Columns_C0
  refine bif_dec (fun hi => ?_) (fun hi => ?_)
  rotate_left
  · have : k = H_ := by omega
    subst this
    exact ⟨_, _, rfl, ⟨fun _ => hkl rfl, fun _ => rfl⟩, fun _ => rd, x1.trans x⟩
  have hul := rd.len
  rw [col3_len] at hul
  have hB := lay_bound T k
  have hpk := pow_small4 (n := k) T.1 hc (by omega)
  have hlk : (layN c ts k lay0).length ≤ 4096 := by
    rw [lay_len]
    refine Nat.le_trans (colP_len _ _ _ _) (Nat.le_trans (Nat.pow_le_pow_left hN _) (Nat.le_trans (Nat.pow_le_pow_right (by omega) (show k ≤ 3 by omega)) (by decide)))
  have hlk1 : k + 1 ≠ H_ → (layN c ts (k + 1) lay0).length ≤ 4096 := fun f => by
    rw [lay_len]
    refine Nat.le_trans (colP_len _ _ _ _) (Nat.le_trans (Nat.pow_le_pow_left hN _) (Nat.le_trans (Nat.pow_le_pow_right (by omega) (show k + 1 ≤ 3 by omega)) (by decide)))
  have hsucc : layN c ts (k + 1) lay0 = (layN c ts k lay0).flatMap (layS c ts) := layN_succ k lay0
  generalize hnow : layN c ts k lay0 = now at *
  have fail : 5000 < (layN c ts (k + 1) lay0).length → ∀ {h' : H}, Ext h0 h' → ∃ u b, AVal.tuple [.sl Sl.nil, .bool false] = .tuple [.sl u, .bool b] ∧ (b = true ↔ (layN c ts H_ lay0).length ≤ 5000) ∧ (b = true → RdSS h' u (col3 (layN c ts H_ lay0))) ∧ Ext h0 h' := fun f {h'} e => by
    have hkH : k + 1 = H_ := by
      refine Classical.byContradiction fun g => ?_
      have := hlk1 g
      omega
    refine ⟨_, _, rfl, ⟨(fun f => by cases f), fun g => ?_⟩, (fun f => by cases f), e⟩
    rw [hkH] at f
    omega
  refine newS_ow (by rfl) fun z h6 oz lz zo e6 => ?_
  have x6 : Ext h h6 := by rw [e6]; exact Ext.app _ _
  refine spec_l06Columns_rule2 _ _ X _ _ _ _ (fun z i g => ∃ p : Nat, i = p ∧ p ≤ now.length ∧ NewSS h.length g z (col3 ((now.take p).flatMap (layS c ts))) ∧ ((now.take p).flatMap (layS c ts)).length ≤ 5000 ∧ Ext h g) (fun _ i _ => (now.length - i).toNat) ?_ _ _ ⟨0, rfl, by omega, NewSS.mk0 oz (fun o e => by rw [zo] at e; cases e; exact Nat.le_refl _), by simp, x6⟩
  rintro Y z _ g ⟨p, rfl, hp, nz, hpl, xg⟩ hY
  unfold spec_l06Columns_b2 spec_l06Columns_C2 spec_l06Columns_C1
  refine bif_dec (fun hpi => ?_) (fun hpi => ?_)
  rotate_left
  · rw [show p = now.length by omega, List.take_length] at nz hpl
    rw [← hsucc] at nz hpl
    rw [w64_of (by omega) (by omega)]
    exact hX _ _ _ ⟨k + 1, by push_cast; rfl, by omega, nz.rd, fun _ => hpl, x.trans xg⟩ (by omega)
  have hp' : p < now.length := by omega
  have hx := hB now[p] (List.getElem_mem hp')
  obtain ⟨a, b, d, hxe⟩ : ∃ a b d, now[p] = (a, b, d) := ⟨_, _, _, rfl⟩
  rw [hxe] at hx
  simp only at hx
  have hpiece := fm_piece now (layS c ts) hp'
  have htake := fm_take now (layS c ts) hp'
  rw [hxe] at hpiece htake
  have hlayS : layS c ts (a, b, d) = ts.flatMap fun t => if 0 ≤ d ∧ d ≠ sd t 1 then [] else [(a * c + sd t 0, b * c + sd t 2, sd t 3)] := rfl
  generalize hgs : (fun t : Tile => if 0 ≤ d ∧ d ≠ sd t 1 then [] else [(a * c + sd t 0, b * c + sd t 2, sd t 3)]) = gs at *
  have hgv : ∀ t, gs t = if 0 ≤ d ∧ d ≠ sd t 1 then [] else [(a * c + sd t 0, b * c + sd t 2, sd t 3)] := fun t => by rw [← hgs]
  rw [hlayS] at hpiece htake
  refine spec_l06Columns_rule4 _ _ X Y _ _ _ _ _ (fun z i g' => ∃ j : Nat, i = j ∧ j ≤ ts.length ∧ NewSS h.length g' z (col3 ((now.take p).flatMap (layS c ts) ++ (ts.take j).flatMap gs)) ∧ ((now.take p).flatMap (layS c ts) ++ (ts.take j).flatMap gs).length ≤ 5000 ∧ Ext h g') (fun _ i _ => (ts.length - i).toNat) ?_ _ _ ⟨0, rfl, by omega, by simpa using nz, by simpa using hpl, xg⟩
  rintro Z z _ g' ⟨j, rfl, hj, nz, hpl, xg'⟩ hZ
  unfold spec_l06Columns_b4 spec_l06Columns_C4 spec_l06Columns_C3
  have o := o1.ext (x.trans xg')
  refine isPt_in (o.ldS rfl rfl ?_)
  refine bif_dec (fun hji => ?_) (fun hji => ?_)
  rotate_left
  · rw [show j = ts.length by omega, List.take_length, ← htake] at nz hpl
    rw [w64_of (by omega) (by omega)]
    exact hY _ _ _ ⟨p + 1, by push_cast; rfl, by omega, nz, hpl, xg'⟩ (by omega)
  have hj' : j < ts.length := by omega
  have E : Ext h0 g' := (x1.trans x).trans xg'
  refine isPt_in (o.ldS rfl rfl ?_)
  refine (r.ext E).ldT (by omega) (by omega) fun t ht => ?_
  rw [Int.toNat_natCast] at ht
  have htm : t ∈ ts := List.mem_of_getElem? ht
  have htk : ts[j] = t := (List.getElem?_eq_some_iff.1 ht).2
  have hpiece2 := fm_piece ts gs hj'
  have htake2 := fm_take ts gs hj'
  rw [htk] at hpiece2 htake2
  have b0 := T.2 t htm 0 (by omega)
  have b2 := T.2 t htm 2 (by omega)
  refine newO_obj fun g3 og3 y3 m3 => ?_
  refine og3.stA fun g4 og4 bb4 m4 => ?_
  have y4 : Ext g' g4 := y3.but_ bb4 (some_le (Nat.le_refl _))
  have o4 := o.ext y4
  have rd4 := rd.ext (xg'.trans y4)
  have rd3 : ∀ {q : Nat} {K : Int → Prop}, q < 3 → K ([a, b, d].getD q 0) → ixS u 1 (p : Int) fun p => Cl.ldS p g4 fun v => ixS v 1 (q : Int) fun p => Cl.ldI .i64 p g4 K := fun {q K} hq hk => by
    refine rd4.ldG (by omega) (by rw [col3_len]; omega) fun v rv lv => ?_
    rw [Int.toNat_natCast, col3_row hp', hxe] at rv
    exact rv.ldG (by omega) (by simp; omega) (by rw [Int.toNat_natCast]; exact hk)
  have nz4 := nz.ext y4
  have hzl := nz.rd.len
  rw [col3_len] at hzl
  have skip : 0 ≤ d ∧ d ≠ sd t 1 → Z (spec_l06Columns_e4 (H_ : Int) ⟨some h0.length, 2, 0⟩ u (k : Int) z (p : Int) (w64 ((j : Int) + 1))) g4 := fun hs => by
    have hg : gs t = [] := by rw [hgv, if_pos hs]
    rw [hg, List.append_nil] at htake2
    rw [w64_of (by omega) (by omega)]
    refine hZ _ _ _ ⟨j + 1, by push_cast; rfl, by omega, ?_, ?_, xg'.trans y4⟩ (by omega)
    · rw [htake2]; exact nz4
    · rw [htake2]; exact hpl
  have a0 : 0 ≤ a * c := Int.mul_nonneg hx.1.1 (by have := T.1; omega)
  have a1 : (a + 1) * c ≤ 1296 * 6 := Int.mul_le_mul (by omega) hc (by have := T.1; omega) (by decide)
  have c0 : 0 ≤ b * c := Int.mul_nonneg hx.2.1 (by have := T.1; omega)
  have c1 : (b + 1) * c ≤ 1296 * 6 := Int.mul_le_mul (by omega) hc (by have := T.1; omega) (by decide)
  rw [Int.add_mul, Int.one_mul] at a1 c1
  have hc1 := T.1
  have ew1 : w64 (w64 (a * c) + sd t 0) = a * c + sd t 0 := by rw [w64_of (n := a * c) (by omega) (by omega), w64_of (by omega) (by omega)]
  have ew2 : w64 (w64 (b * c) + sd t 2) = b * c + sd t 2 := by rw [w64_of (n := b * c) (by omega) (by omega), w64_of (by omega) (by omega)]
  have take : ¬ (0 ≤ d ∧ d ≠ sd t 1) → bif ((z.len : Int) == 5000) then (∃ u b, AVal.tuple [.sl Sl.nil, .bool false] = .tuple [.sl u, .bool b] ∧ (b = true ↔ (layN c ts H_ lay0).length ≤ 5000) ∧ (b = true → RdSS g4 u (col3 (layN c ts H_ lay0))) ∧ Ext h0 g4) else
      ixS u 1 (p : Int) fun p17 => Cl.ldS p17 g4 fun s18 => ixS s18 1 0 fun p19 => Cl.ldI .i64 p19 g4 fun n20 => isPt ⟨some h0.length, 2, 0⟩ (Cl.ldI .i64 (Pt.add ⟨some h0.length, 2, 0⟩ 0) g4 fun n21 => ixA ⟨some g'.length, 4, 0⟩ 4 1 0 fun p22 => Cl.ldI .i64 p22 g4 fun n23 =>
      ixS u 1 (p : Int) fun p24 => Cl.ldS p24 g4 fun s25 => ixS s25 1 1 fun p26 => Cl.ldI .i64 p26 g4 fun n27 => isPt ⟨some h0.length, 2, 0⟩ (Cl.ldI .i64 (Pt.add ⟨some h0.length, 2, 0⟩ 0) g4 fun n28 => ixA ⟨some g'.length, 4, 0⟩ 4 1 2 fun p29 => Cl.ldI .i64 p29 g4 fun n30 => ixA ⟨some g'.length, 4, 0⟩ 4 1 3 fun p31 => Cl.ldI .i64 p31 g4 fun n32 =>
      newS 3 1 [i64 (w64 (w64 (n20 * n21) + n23)), i64 (w64 (w64 (n27 * n28) + n30)), i64 n32] g4 fun s33 h34 => newS 1 1 [.sl s33] h34 fun s35 h36 => Cl.app z s35 1 h36 fun s37 h38 => Z (spec_l06Columns_e4 (H_ : Int) ⟨some h0.length, 2, 0⟩ u (k : Int) s37 (p : Int) (w64 ((j : Int) + 1))) h38)) := fun hno => by
    have hg : gs t = [(a * c + sd t 0, b * c + sd t 2, sd t 3)] := by rw [hgv, if_neg hno]
    refine bif_eq (fun hfull => fail ?_ (E.trans y4)) (fun hfull => ?_)
    · rw [hsucc, hpiece, hpiece2, hg]
      rw [hzl] at hfull
      simp only [List.length_append, List.length_cons, List.length_nil] at hfull ⊢
      omega
    refine rd3 (q := 0) (by omega) (isPt_in (o4.ldI rfl rfl ?_))
    refine og4.sdI (by omega) (by omega) ?_
    refine rd3 (q := 1) (by omega) (isPt_in (o4.ldI rfl rfl ?_))
    refine og4.sdI (by omega) (by omega) ?_
    refine og4.sdI (by omega) (by omega) ?_
    show newS 3 1 [i64 (w64 (w64 (a * c) + sd t 0)), i64 (w64 (w64 (b * c) + sd t 2)), i64 (sd t 3)] g4 _
    rw [ew1, ew2]
    refine newS_ow (by rfl) fun v g6 ov lv vo e6 => ?_
    have y6 : Ext g4 g6 := by rw [e6]; exact Ext.app _ _
    have gl := xg.len
    have gl' := xg'.len
    have gl4 := y4.len
    refine (nz4.ext y6).push (l := [a * c + sd t 0, b * c + sd t 2, sd t 3]) ov (m := g4.length) (fun o e => by rw [vo] at e; cases e; exact Nat.le_refl _) (by omega) ⟨g4, nz4, Nat.le_refl _, y6⟩ (by rw [col3_len]; unfold lim; omega) (by have := y6.len; omega) fun z' g8 nz' bz => ?_
    rw [w64_of (by omega) (by omega)]
    refine hZ _ _ _ ⟨j + 1, by push_cast; rfl, by omega, ?_, ?_, (xg'.trans (y4.trans y6)).but_ bz fun o e => nz.fr o e⟩ (by omega)
    · rw [htake2, hg, ← List.append_assoc, col3_app]; exact nz'
    · rw [htake2, hg, ← List.append_assoc, List.length_append, List.length_singleton]; rw [hzl] at hfull; omega
  refine rd3 (q := 2) (by omega) ?_
  refine bif_dec (fun hd0 => ?_) (fun hd0 => ?_)
  · refine rd3 (q := 2) (by omega) ?_
    refine og4.sdI (by omega) (by omega) ?_
    refine bif_ne (fun hq => skip ⟨hd0, hq⟩) (fun hq => take fun f => f.2 hq)
  · exact take fun f => hd0 f.1
end
end Go.Proofs.Ytnamnpbkiibadaa.Cl

/- Contracts of the reference's code of columns and of CountColumns. No claim is stated here. -/
set_option linter.unusedVariables false
set_option linter.unusedSimpArgs false
namespace Go.Proofs.Ytnamnpbkiibadaa.Cl
open Go
section
variable {h0 : H} {c : Int} {s : Sl} {ts : List Tile} {H_ : Nat}
theorem l06Code_c (r : Rd h0 s 4 (tcs ts)) (sz : ts.length ≤ 1048576) {n : Int} :
    callV SP i_spec_l06Code [.agg (SetC c s), i64 n] h0 fun v h' => ∃ u, v = .tuple [.sl u, i64 (codeS c ts n)] ∧ (codeS c ts n = 0 → RdSS h' u (col3 (layN c ts n.toNat lay0))) ∧ (codeS c ts n ≠ 0 → u = Sl.nil) ∧ Ext h0 h' := by
  apply spec_l06Code_call
  unfold spec_l06Code_main
  refine newK_obj fun h1 o1 x1 l1 => ?_
  refine o1.ldA rfl ?_
  refine (l01Is_c (r.ext x1)).to ?_
  rintro e h3 ⟨he, x3⟩
  have X3 := x1.trans x3
  have fin : ∀ {h' : H}, codeS c ts n ≠ 0 → Ext h0 h' → ∀ k : Int, k = codeS c ts n → ∃ u, AVal.tuple [.sl Sl.nil, i64 k] = .tuple [.sl u, i64 (codeS c ts n)] ∧ (codeS c ts n = 0 → RdSS h' u (col3 (layN c ts n.toNat lay0))) ∧ (codeS c ts n ≠ 0 → u = Sl.nil) ∧ Ext h0 h' := fun hq x k hk => ⟨_, by rw [hk], fun f => absurd f hq, fun _ => rfl, x⟩
  refine bif_not (fun hq => ?_) (fun hq => ?_)
  · have h1 : codeOf (setOK c ts) (1 ≤ n ∧ n ≤ 4) = 1 := codeOf_no fun hs => by rw [he.2 hs] at hq; cases hq
    have h2 : codeS c ts n = 1 := by rw [codeS_no (by rw [h1]; decide), h1]
    exact fin (by rw [h2]; decide) X3 1 h2.symm
  have hs := he.1 hq
  have T := hs.ts
  refine l01In_k ?_
  refine bif_not (fun hr => ?_) (fun hr => ?_)
  · have hr' : ¬ (1 ≤ n ∧ n ≤ 4) := of_decide_eq_false hr
    have h1 : codeOf (setOK c ts) (1 ≤ n ∧ n ≤ 4) = 2 := codeOf_range hs hr'
    have h2 : codeS c ts n = 2 := by rw [codeS_no (by rw [h1]; decide), h1]
    exact fin (by rw [h2]; decide) X3 2 h2.symm
  have hr' : 1 ≤ n ∧ n ≤ 4 := of_decide_eq_true hr
  have h00 : codeOf (setOK c ts) (1 ≤ n ∧ n ≤ 4) = 0 := codeOf_yes hs hr'
  obtain ⟨H_, rfl⟩ : ∃ H_ : Nat, n = H_ := ⟨n.toNat, by omega⟩
  have hof : colsOf c ts (H_ : Int) = colP c ts H_ (-1) 0 0 := by unfold colsOf; rw [Int.toNat_natCast]
  refine (o1.ext x3).ldA rfl ?_
  refine (l06Size_c (s := s) T.1 hs.1.2 (H_ := H_) (by omega)).to ?_
  rintro _ h8 ⟨rfl, x8⟩
  refine bif_dec (fun hg => ?_) (fun hg => ?_)
  · have h2 : codeS c ts (H_ : Int) = 3 := codeS_3 h00 (.inl (by rw [Int.toNat_natCast]; exact hg))
    exact fin (by rw [h2]; decide) (X3.trans x8) 3 h2.symm
  refine (o1.ext (x3.trans x8)).ldA rfl ?_
  refine (l06Columns_c (H_ := H_) (r.ext (X3.trans x8)) T hs.1.2 hs.2.1 (by omega)).to ?_
  rintro _ h11 ⟨u, b, rfl, hb, hu, x11⟩
  refine ⟨_, rfl, _, rfl, _, rfl, _, rfl, ?_⟩
  have hlen : (layN c ts H_ lay0).length = (colsOf c ts (H_ : Int)).length := by rw [hof]; exact lay_len H_
  refine bif_not (fun hf => ?_) (fun hf => ?_)
  · have h2 : codeS c ts (H_ : Int) = 3 := codeS_3 h00 (.inr (by
      rw [← hlen]
      refine Classical.byContradiction fun f => ?_
      have : b = true := hb.2 (by omega)
      rw [hf] at this; cases this))
    exact fin (by rw [h2]; decide) ((X3.trans x8).trans x11) 3 h2.symm
  · have h2 : codeS c ts (H_ : Int) = 0 := codeS_0 h00 (by
      rw [Int.toNat_natCast, ← hlen]
      have := hb.1 hf
      omega)
    exact ⟨u, by rw [h2], fun _ => by rw [Int.toNat_natCast]; exact hu hf, fun f => absurd h2 f, (X3.trans x8).trans x11⟩
end
end Go.Proofs.Ytnamnpbkiibadaa.Cl

/- Strip sequences: numbers of ways, column by column, on both sides. No claim is stated here. -/
set_option linter.unusedVariables false
set_option linter.unusedSimpArgs false
namespace Go.Proofs.Ytnamnpbkiibadaa.Cl
open Go
/-! ### the numbers -/
def stp (f : Int → Int) (now nx : List Int) (e : Int × Int) : List Int := nx.set e.2.toNat (f (nx.getD e.2.toNat 0 + now.getD e.1.toNat 0))
def stepL (f : Int → Int) (es : List (Int × Int)) (N : Nat) (now : List Int) : List Int := es.foldl (stp f now) (List.replicate N 0)
def totL (f : Int → Int) (l : List Int) : Int := l.foldl (fun s x => f (s + x)) 0
def seqL (f : Int → Int) (es : List (Int × Int)) (N : Nat) : Nat → List Int → List Int
  | 0, _ => []
  | k + 1, now => totL f (stepL f es N now) :: seqL f es N k (stepL f es N now)
def runQ {σ : Type} (f : Int → Int) (es : List (Int × Int)) (N : Nat) (g : σ → Int → σ × Bool) : Nat → σ → List Int → σ
  | 0, t, _ => t
  | k + 1, t, now => if (g t (totL f (stepL f es N now))).2 = true then runQ f es N g k (g t (totL f (stepL f es N now))).1 (stepL f es N now) else (g t (totL f (stepL f es N now))).1
def Bd (B : Int) (l : List Int) : Prop := ∀ i, 0 ≤ l.getD i 0 ∧ l.getD i 0 ≤ B
structure Fit (f : Int → Int) (B : Int) : Prop where
  b0 : 0 ≤ B
  b1 : B ≤ 1000000000000001
  f0 : ∀ x, 0 ≤ x → 0 ≤ f x ∧ f x ≤ B
theorem stp_len (f now nx e) : (stp f now nx e).length = nx.length := by simp [stp]
theorem stp_bd {f : Int → Int} {B : Int} (F : Fit f B) {now nx : List Int} {e : Int × Int} (hn : Bd B now) (hx : Bd B nx) : Bd B (stp f now nx e) := fun i => by
  unfold stp
  rw [List.getD_eq_getElem?_getD, List.getElem?_set]
  by_cases h : e.2.toNat = i
  · rw [if_pos h]
    split
    · have h1 := hx e.2.toNat
      have h2 := hn e.1.toNat
      exact F.f0 _ (by omega)
    · exact ⟨Int.le_refl _, F.b0⟩
  · rw [if_neg h, ← List.getD_eq_getElem?_getD]; exact hx i
theorem fold_stp {f : Int → Int} {B : Int} (F : Fit f B) {now : List Int} (hn : Bd B now) : ∀ (es : List (Int × Int)) (nx : List Int), Bd B nx → Bd B (es.foldl (stp f now) nx) ∧ (es.foldl (stp f now) nx).length = nx.length
  | [], nx, h => ⟨h, rfl⟩
  | e :: es, nx, h => by
    have := fold_stp F hn es (stp f now nx e) (stp_bd F hn h)
    exact ⟨this.1, by rw [List.foldl_cons, this.2, stp_len]⟩
theorem bd_zero {B : Int} (h : 0 ≤ B) (N : Nat) : Bd B (List.replicate N 0) := fun i => by
  rw [List.getD_eq_getElem?_getD, List.getElem?_replicate]
  split
  · exact ⟨Int.le_refl _, h⟩
  · exact ⟨Int.le_refl _, h⟩
theorem bd_one {B : Int} (h : 1 ≤ B) (N : Nat) : Bd B (List.replicate N 1) := fun i => by
  rw [List.getD_eq_getElem?_getD, List.getElem?_replicate]
  split
  · exact ⟨by decide, h⟩
  · exact ⟨Int.le_refl _, by show (0 : Int) ≤ B; omega⟩
theorem stepL_bd {f : Int → Int} {B : Int} (F : Fit f B) {es : List (Int × Int)} {N : Nat} {now : List Int} (hn : Bd B now) : Bd B (stepL f es N now) ∧ (stepL f es N now).length = N := by
  have := fold_stp F hn es (List.replicate N 0) (bd_zero F.b0 N)
  exact ⟨this.1, by unfold stepL; rw [this.2]; simp⟩
theorem foldl_take {α β : Type} (g : β → α → β) (x : β) {l : List α} {k : Nat} (h : k < l.length) : (l.take (k + 1)).foldl g x = g ((l.take k).foldl g x) l[k] := by
  rw [List.take_succ_eq_append_getElem h, List.foldl_append]; rfl
theorem totL_bd {f : Int → Int} {B : Int} (F : Fit f B) {l : List Int} (hl : Bd B l) : ∀ k, k ≤ l.length → 0 ≤ (l.take k).foldl (fun s x => f (s + x)) 0 ∧ (l.take k).foldl (fun s x => f (s + x)) 0 ≤ B
  | 0, _ => ⟨Int.le_refl _, F.b0⟩
  | k + 1, h => by
    have ih := totL_bd F hl k (by omega)
    rw [foldl_take _ _ (by omega)]
    have hk := hl k
    rw [List.getD_eq_getElem?_getD, List.getElem?_eq_getElem (by omega)] at hk
    have hk' : 0 ≤ l[k] ∧ l[k] ≤ B := hk
    exact F.f0 _ (by omega)
/-! ### reading columns -/
theorem c3_at : ∀ (l : List (Int × Int × Int)) (i : Nat) (x : Int × Int × Int), l[i]? = some x → ((c3 l).drop (i * 3)).take 3 = [i64 x.1, i64 x.2.1, i64 x.2.2]
  | [], i, x, h => by simp at h
  | a :: l, 0, x, h => by
    simp at h
    subst h
    unfold c3
    simp
  | a :: l, i + 1, x, h => by
    have ih := c3_at l i x (by simpa using h)
    unfold c3 at *
    rw [List.map_cons, List.flatten_cons, show (i + 1) * 3 = 3 + i * 3 by omega, ← List.drop_drop]
    exact ih
theorem Rd.ldC {h : H} {s : Sl} {l : List (Int × Int × Int)} (r : Rd h s 3 (c3 l)) {i : Nat} (h1 : i < l.length) {K : List AVal → Prop} (hk : K [i64 l[i].1, i64 l[i].2.1, i64 l[i].2.2]) : ixS s 3 (i : Int) fun p => Cl.ldA p 3 h K := by
  have hl := r.len
  rw [c3_len] at hl
  refine r.ldA (by omega) (by omega) ?_
  rw [Int.toNat_natCast, c3_at l i l[i] (List.getElem?_eq_getElem h1)]
  exact hk
theorem Obj.ixI {h : H} {o : Nat} {cs : List AVal} (x : Obj h o cs) {n i : Nat} (hn : cs.length = n) (hi : i < n) {K : Pt → Prop} (hk : ∀ p, cell h p = cs[i]? → K p) : ixA ⟨some o, n, 0⟩ n 1 (i : Int) K := by
  refine ⟨⟨by omega, by omega⟩, rfl, hk _ ?_⟩
  rw [Int.toNat_natCast, Nat.mul_one]
  exact x.cellE hn
theorem getD_map_pr {l : List (Int × Int × Int)} {k : Nat} (h : k < l.length) : (l.map pr)[k]'(by simpa using h) = (l[k].1, l[k].2.1) := by simp [pr]
/-! ### the program's sequences -/
section
variable {hb : H} {n N : Nat} {c : Int} {s : Sl} {ts : List Tile} {H_ os : Nat} {q : Sl} {f : Int → Int} {B : Int} {gf gv : Nat} {capf capv : List AVal} {σ : Type} {g : σ → Int → σ × Bool} {I : σ → H → Prop} {J : σ → Prop} {n1 : Nat}
theorem seqLoop (k : Strip hb n c s ts H_ os q) (T : TS c ts) (hc6 : c ≤ 6) (hH : H_ ≤ 4) (hN : (N : Int) = c ^ H_) (F : Fit f B) (hlen : (colsI c ts H_).length ≤ 5000)
    (hf : ∀ (x : Int) (h : H) (K : Int → H → Prop), 0 ≤ x → x ≤ 4000000000000000 → K (f x) h → callI SP .i64 gf ([i64 x] ++ capf) h K)
    (hI : ∀ t h h', I t h → Till n1 h h' → I t h') (hn1 : hb.length ≤ n1)
    (hJ : ∀ t y, (g t y).2 = true → J (g t y).1) (hv : ∀ (t : σ) (y : Int) (h' : H), J t → I t h' → 0 ≤ y → y ≤ B → Ext hb h' → n1 ≤ h'.length → callB SP gv ([i64 y] ++ capv) h' fun b h'' => b = (g t y).2 ∧ I (g t y).1 h'' ∧ Chg (fun i => hb.length ≤ i ∧ i < n1) h' h'')
    (μ : σ → Nat) (hμ : ∀ t y, (g t y).2 = true → μ (g t y).1 < μ t) {R : σ} {K : AVal → H → Prop} (hK : ∀ h', I R h' → Ext hb h' → K (.tuple []) h') :
    ∀ (m : Nat) (t : σ) (now : List Int) (u : Sl) (h : H), μ t < m → runQ f ((colsI c ts H_).map pr) N g m t now = R → Bd B now → now.length = N → Ow h u 1 (ic now) → Fr n1 u → J t → I t h → Ext hb h → n1 ≤ h.length →
      impl_strip_sequence_L0 SP K ⟨some os, 5, 0⟩ (.func gf capf) (.func gv capv) u h
  | 0, t, now, u, h, hm, _, _, _, _, _, _, _, _, _ => by omega
  | m + 1, t, now, u, h, hm, hR, hbd, hnl, ou, fu, jt, i, x, hh => by
    apply impl_strip_sequence_unroll0
    unfold impl_strip_sequence_b0
    have hp := pow_small4 (n := H_) T.1 hc6 hH
    have b1 := F.b1
    have ks := k.ext x
    refine ⟨rfl, isPt_in (ks.o.ldI (i := 3) rfl rfl ?_)⟩
    refine mkS_ow (by omega) (by unfold lim; omega) fun v h2 ov lv vo e2 => ?_
    have x2 : Ext h h2 := by rw [e2]; exact Ext.app _ _
    rw [show (List.replicate (c ^ H_).toNat [i64 0]).flatten = ic (List.replicate N 0) from by
      rw [show (c ^ H_).toNat = N by omega]
      induction N with
      | zero => rfl
      | succ z _ => simp [ic, List.map_replicate]] at ov
    refine ⟨rfl, isPt_in ((ks.ext x2).o.ldS (i := 4) rfl rfl ?_)⟩
    have hql := k.len
    have hcb : ∀ e ∈ (colsI c ts H_).map pr, (0 ≤ e.1 ∧ e.1 < N) ∧ 0 ≤ e.2 ∧ e.2 < N := fun e he => by
      rw [colsI_pr T] at he
      have := colP_bound T H_ (-1) 0 0 1 (by omega) (by omega) e he
      rw [Int.one_mul, ← hN] at this
      exact this
    have l2 := x2.len
    have hvf : Fr h.length v := fun o e => by rw [vo] at e; cases e; exact Nat.le_refl _
    generalize hes : (colsI c ts H_).map pr = es at *
    have hel : es.length = (colsI c ts H_).length := by rw [← hes]; simp
    refine impl_strip_sequence_rule2 _ _ _ _ _ _ _ _ _ _ _ (fun j g' => ∃ z : Nat, j = z ∧ z ≤ es.length ∧ Ow g' v 1 (ic ((es.take z).foldl (stp f now) (List.replicate N 0))) ∧ Ext h g') (fun j _ => (es.length - j).toNat) ?_ _ ⟨0, rfl, by omega, ov, x2⟩
    rintro Y _ g' ⟨z, rfl, hz, ov, e⟩ hY
    unfold impl_strip_sequence_b2 impl_strip_sequence_C2
    have hfold := fold_stp F hbd (es.take z) (List.replicate N 0) (bd_zero F.b0 N)
    refine bif_dec (fun hi => ?_) (fun hi => ?_)
    · have hz' : z < es.length := by omega
      have hzc : z < (colsI c ts H_).length := by omega
      have hez : es[z] = ((colsI c ts H_)[z].1, (colsI c ts H_)[z].2.1) := by
        have := getD_map_pr hzc
        simp only [← hes]
        exact this
      have hb' := hcb es[z] (List.getElem_mem hz')
      rw [hez] at hb'
      simp only at hb'
      refine (ks.ext e).cols.rd.ldC hzc ?_
      generalize (colsI c ts H_)[z] = x3 at *
      refine newO_obj fun g3 og3 y3 m3 => ?_
      refine og3.stA fun g4 og4 b4 m4 => ?_
      have y4 : Ext g' g4 := y3.but_ b4 (some_le (Nat.le_refl _))
      have ov4 := ov.ext y4
      have ou4 := ou.ext (e.trans y4)
      have rdc : ∀ {i : Nat} {K : Pt → Int → Prop} (hi : i < 3), (∀ p, K p ([x3.1, x3.2.1, x3.2.2].getD i 0)) → ixA ⟨some g'.length, 3, 0⟩ 3 1 (i : Int) fun p => Cl.ldI .i64 p g4 (K p) := fun {i K} hi hk => by
        refine og4.ixI rfl hi fun p hp => ⟨_, ?_, hk p⟩
        rw [hp]
        match i, hi with
        | 0, _ => rfl
        | 1, _ => rfl
        | 2, _ => rfl
      refine rdc (i := 1) (by omega) fun p5 => ?_
      refine rdc (i := 1) (by omega) fun p7 => ?_
      show ixS v 1 x3.2.1 _
      refine ov4.rd.ldG hb'.2.1 (by rw [hfold.2]; simp; omega) ?_
      refine rdc (i := 0) (by omega) fun p11 => ?_
      show ixS u 1 x3.1 _
      refine ou4.rd.ldG hb'.1.1 (by omega) ?_
      have q1 := hfold.1 x3.2.1.toNat
      have q2 := hbd x3.1.toNat
      refine via_func ?_
      rw [w64_of (by omega) (by omega)]
      refine hf _ _ _ (by omega) (by omega) ⟨rfl, ?_⟩
      refine ov4.stI hb'.2.1 (by have := ov4.rd.ilen; rw [hfold.2] at this; simp at this; omega) _ fun g5 o5 b5 l5 => ?_
      rw [w64_of (by omega) (by omega)]
      refine hY _ _ ⟨z + 1, by push_cast; rfl, by omega, ?_, (e.trans y4).but_ b5 fun o' e' => hvf o' e'⟩ (by omega)
      rw [foldl_take _ _ hz', hez]
      exact o5
    · rw [show z = es.length by omega, List.take_length] at ov
      have hst := stepL_bd F (es := es) (N := N) hbd
      change Ow g' v 1 (ic (stepL f es N now)) at ov
      have hvl := ov.rd.ilen
      clear hY hfold
      refine impl_strip_sequence_rule4 _ _ _ _ _ _ _ _ _ (fun a j g2 => ∃ z : Nat, j = z ∧ z ≤ (stepL f es N now).length ∧ a = ((stepL f es N now).take z).foldl (fun s x => f (s + x)) 0 ∧ g' = g2) (fun _ j _ => ((stepL f es N now).length - j).toNat) ?_ _ _ ⟨0, rfl, by omega, rfl, rfl⟩
      rintro Z _ _ _ ⟨z, rfl, hz, rfl, rfl⟩ hZ
      unfold impl_strip_sequence_b4 impl_strip_sequence_C4
      have ht := totL_bd F hst.1 z hz
      refine bif_dec (fun hi => ?_) (fun hi => ?_)
      · have hz' : z < (stepL f es N now).length := by omega
        have q1 := hst.1 z
        refine ov.rd.ldG (by omega) (by omega) ?_
        rw [Int.toNat_natCast]
        refine via_func ?_
        rw [w64_of (by omega) (by omega)]
        refine hf _ _ _ (by omega) (by omega) ?_
        rw [w64_of (by omega) (by omega)]
        refine hZ _ _ _ ⟨z + 1, by push_cast; rfl, by omega, ?_, rfl⟩ (by omega)
        rw [foldl_take _ _ hz', List.getD_eq_getElem?_getD, List.getElem?_eq_getElem hz']
        rfl
      · rw [show z = (stepL f es N now).length by omega, List.take_length] at ht ⊢
        change 0 ≤ totL f (stepL f es N now) ∧ totL f (stepL f es N now) ≤ B at ht
        refine via_func ?_
        have i2 : I t g' := hI t h g' i (e.till n1)
        have el := e.len
        refine (hv t (totL f (stepL f es N now)) g' jt i2 ht.1 ht.2 (x.trans e) (by omega)).to ?_
        rintro b g2 ⟨hb2, i3, cg⟩
        have hX : Ext hb g2 := (x.trans e).chg_ cg fun i hi => hi.1
        rw [runQ] at hR
        refine bif_not (fun hf' => ?_) (fun hf' => ?_)
        · rw [hf'] at hb2
          rw [if_neg (by rw [← hb2]; decide)] at hR
          rw [hR] at i3
          exact hK g2 i3 hX
        · rw [hf'] at hb2
          rw [if_pos hb2.symm] at hR
          have := cg.1
          have hm2 := hμ t _ hb2.symm
          exact seqLoop k T hc6 hH hN F hlen hf hI hn1 hJ hv μ hμ hK m _ _ v g2 (by omega) (by rw [hes]; exact hR) hst.1 hst.2 (ov.chg cg fun i ei f => by have := hvf i ei; omega) (fun o e => by have := hvf o e; omega) (hJ t _ hb2.symm) i3 hX (by omega)
end
end Go.Proofs.Ytnamnpbkiibadaa.Cl

/- Contracts of StripSequence. No claim is stated here. -/
set_option linter.unusedVariables false
set_option linter.unusedSimpArgs false
namespace Go.Proofs.Ytnamnpbkiibadaa.Cl
open Go
abbrev topS : Int := 1000000000000000
def fS (x : Int) : Int := mnI x 1000000000000001
theorem fitS : Fit fS 1000000000000001 := ⟨by decide, by decide, fun x h => by unfold fS mnI; split <;> omega⟩
def gS (n : Int) (t : List Int × Bool) (y : Int) : (List Int × Bool) × Bool := ((t.1 ++ [y], t.2 && decide (y ≤ topS)), (t.2 && decide (y ≤ topS)) && decide (((t.1.length + 1 : Nat) : Int) < n))
theorem runQ_S {es : List (Int × Int)} {N : Nat} {n : Int} : ∀ (j m : Nat) (now out : List Int), 1 ≤ j → j ≤ m → ((out.length + j : Nat) : Int) = n →
    ((∀ y ∈ seqL fS es N j now, y ≤ topS) → runQ fS es N (gS n) m (out, true) now = (out ++ seqL fS es N j now, true)) ∧ (¬ (∀ y ∈ seqL fS es N j now, y ≤ topS) → (runQ fS es N (gS n) m (out, true) now).2 = false)
  | 0, m, now, out, h, _, _ => by omega
  | j + 1, 0, now, out, _, h, _ => by omega
  | j + 1, m + 1, now, out, h1, h2, hn => by
    rw [runQ, seqL]
    generalize totL fS (stepL fS es N now) = y
    by_cases hy : y ≤ topS
    · have e1 : (gS n (out, true) y).1 = (out ++ [y], true) := by simp [gS, hy]
      cases j with
      | zero =>
        have e2 : (gS n (out, true) y).2 = false := by
          have : ¬ (((out.length + 1 : Nat) : Int) < n) := by omega
          simp only [gS, decide_eq_false this, Bool.and_false]
        rw [if_neg (by rw [e2]; decide), e1]
        exact ⟨fun _ => rfl, fun f => absurd (fun z hz => by simp [seqL] at hz; rw [hz]; exact hy) f⟩
      | succ j =>
        have e2 : (gS n (out, true) y).2 = true := by
          have : ((out.length + 1 : Nat) : Int) < n := by omega
          simp only [gS, decide_eq_true this, decide_eq_true hy]; rfl
        rw [if_pos e2, e1]
        have ih := runQ_S (es := es) (N := N) (n := n) (j + 1) m (stepL fS es N now) (out ++ [y]) (by omega) (by omega) (by simp; omega)
        refine ⟨fun f => ?_, fun f => ih.2 fun g => f fun z hz => ?_⟩
        · rw [ih.1 fun z hz => f z (by simp [hz])]; simp
        · rcases List.mem_cons.1 hz with rfl | hz
          · exact hy
          · exact g z hz
    · have e1 : (gS n (out, true) y).1 = (out ++ [y], false) := by simp [gS, hy]
      have e2 : (gS n (out, true) y).2 = false := by simp [gS, hy]
      rw [if_neg (by rw [e2]; decide), e1]
      exact ⟨fun f => absurd (f y (by simp)) hy, fun _ => rfl⟩
theorem seqL_len {f : Int → Int} {es : List (Int × Int)} {N : Nat} : ∀ (k : Nat) (now : List Int), (seqL f es N k now).length = k
  | 0, _ => rfl
  | k + 1, now => by rw [seqL, List.length_cons, seqL_len k]
/-- The numbers of a strip's sequence. -/
def strS (c : Int) (ts : List Tile) (a n : Int) : List Int := seqL fS (colsOf c ts a) (c ^ a.toNat).toNat n.toNat (List.replicate (c ^ a.toNat).toNat 1)
def SizeS (a n : Int) : Prop := (1 ≤ a ∧ a ≤ 4) ∧ 1 ≤ n ∧ n ≤ 30
open Classical in
noncomputable def codeQ (c : Int) (ts : List Tile) (a n : Int) : Int := if codeOf (setOK c ts) (SizeS a n) ≠ 0 then codeOf (setOK c ts) (SizeS a n) else if codeS c ts a ≠ 0 then codeS c ts a else if ∀ y ∈ strS c ts a n, y ≤ topS then 0 else 3
theorem codeQ_1 {c : Int} {ts : List Tile} {a n : Int} (h : codeOf (setOK c ts) (SizeS a n) ≠ 0) : codeQ c ts a n = codeOf (setOK c ts) (SizeS a n) := by unfold codeQ; rw [if_pos h]
theorem codeQ_2 {c : Int} {ts : List Tile} {a n : Int} (h : codeOf (setOK c ts) (SizeS a n) = 0) (h2 : codeS c ts a ≠ 0) : codeQ c ts a n = codeS c ts a := by unfold codeQ; rw [if_neg (by rw [h]; decide), if_pos h2]
theorem codeQ_3 {c : Int} {ts : List Tile} {a n : Int} (h : codeOf (setOK c ts) (SizeS a n) = 0) (h2 : codeS c ts a = 0) (h3 : ¬ ∀ y ∈ strS c ts a n, y ≤ topS) : codeQ c ts a n = 3 := by unfold codeQ; rw [if_neg (by rw [h]; decide), if_neg (by rw [h2]; decide), if_neg h3]
theorem codeQ_0 {c : Int} {ts : List Tile} {a n : Int} (h : codeOf (setOK c ts) (SizeS a n) = 0) (h2 : codeS c ts a = 0) (h3 : ∀ y ∈ strS c ts a n, y ≤ topS) : codeQ c ts a n = 0 := by unfold codeQ; rw [if_neg (by rw [h]; decide), if_neg (by rw [h2]; decide), if_pos h3]
noncomputable def F_StripSequence_0 (c : Int) (ts : List Tile) (a n : Int) : List Int := sel0 (codeQ c ts a n = 0) (strS c ts a n)
theorem StripSequence_small0 {c : Int} {ts : List Tile} {a n : Int} (sz : ts.length ≤ 1048576) (ba : i64ok a) (bn : i64ok n) : (F_StripSequence_0 c ts a n).length < 1000000 := by
  by_cases h : codeQ c ts a n = 0
  · rw [F_StripSequence_0, sel0_yes h, strS, seqL_len]
    by_cases h1 : codeOf (setOK c ts) (SizeS a n) = 0
    · have := (codeOf_zero h1).2.2
      omega
    · rw [codeQ_1 h1] at h; exact absurd h h1
  · rw [F_StripSequence_0, sel0_no h]; decide
section
variable {h0 : H} {c : Int} {s : Sl} {ts : List Tile} {a n : Int}
end
end Go.Proofs.Ytnamnpbkiibadaa.Cl

/- Contracts of the reference's StripSequence. No claim is stated here. -/
set_option linter.unusedVariables false
set_option linter.unusedSimpArgs false
namespace Go.Proofs.Ytnamnpbkiibadaa.Cl
open Go
theorem pushI3 {h : H} {s : Sl} {l : List Int} {x : Int} (r : Ow h s 1 (ic l)) (hl : (l.length : Int) + 1 ≤ lim) {K : Sl → H → Prop}
    (hk : ∀ s' h', Ow h' s' 1 (ic (l ++ [x])) → But s.o h h' → (∀ o, s.o = some o → s'.o = some o) → K s' h') : newS 1 1 [.int .i64 x] h fun t h1 => app s t 1 h1 K := by
  refine newS_ow (by rfl) fun t h1 ot tl to e1 => ?_
  have e1' : Ext h h1 := by rw [e1]; exact Ext.app _ _
  have hsl := r.rd.ilen
  exact app_ow (by omega) (r.ext e1') ot.rd (by rw [tl, hsl]; exact_mod_cast hl) fun s' h' o' ln b k1 k2 => hk s' h' (by rw [ic_app]; exact o') ((e1'.but _).trans b) k1
section
variable {h0 : H} {u w : Sl} {L : List (Int × Int × Int)} {N : Nat} {now : List Int}
theorem l02Each_c (hN : N ≤ 1000000) : callS SP i_spec_l02Each [i64 N] h0 fun z h' => Ow h' z 1 (ic (List.replicate N 1)) ∧ Fr h0.length z ∧ Ext h0 h' := by
  apply spec_l02Each_call
  unfold spec_l02Each_main
  refine newS_ow (by rfl) fun v h2 ov lv vo e2 => ?_
  have x2 : Ext h0 h2 := by rw [e2]; exact Ext.app _ _
  refine spec_l02Each_rule0 _ _ _ (fun v j g => ∃ z : Nat, j = z ∧ z ≤ N ∧ Ow g v 1 (ic (List.replicate z 1)) ∧ Fr h0.length v ∧ Ext h0 g) (fun _ j _ => (N - j).toNat) ?_ _ _ ⟨0, rfl, by omega, ov, (fun o e => by rw [vo] at e; cases e; exact Nat.le_refl _), x2⟩
  rintro Z v _ g ⟨z, rfl, hz, ov, fv, x⟩ hZ
  unfold spec_l02Each_b0 spec_l02Each_C0
  refine bif_dec (fun hi => ?_) (fun hi => ⟨_, rfl, by rw [show N = z by omega]; exact ov, fv, x⟩)
  refine pushI ov (by simp; unfold lim; omega) fun v' g' ov' bv fv' => ?_
  rw [w64_of (by omega) (by omega)]
  refine hZ _ _ _ ⟨z + 1, by push_cast; rfl, by omega, by rw [List.replicate_succ']; exact ov', fv' _ fv x.len, x.but_ bv (fun o e => fv o e)⟩ (by omega)
end
section
variable {h0 : H} {c : Int} {s : Sl} {ts : List Tile} {a n : Int}
end
end Go.Proofs.Ytnamnpbkiibadaa.Cl

/- Recurrences of heights: the plain part, and the program's walk. No claim is stated here. -/
set_option linter.unusedVariables false
set_option linter.unusedSimpArgs false
namespace Go.Proofs.Ytnamnpbkiibadaa.Cl
open Go
/-! ### keys -/
def addKey (ks : List Int) (k : Int) : List Int := if k ∈ ks then ks else ks ++ [k]
def keysOf (es : List (Int × Int)) : List Int := es.foldl (fun ks e => addKey (addKey ks e.1) e.2) []
theorem addKey_nodup {ks : List Int} (h : ks.Nodup) (k : Int) : (addKey ks k).Nodup := by
  unfold addKey
  split
  · exact h
  · next hn => exact List.nodup_append.2 ⟨h, by simp, fun a ha b hb e => hn (by rw [List.mem_singleton.1 hb] at e; rw [← e]; exact ha)⟩
theorem mem_addKey {ks : List Int} {k x : Int} : x ∈ addKey ks k ↔ x ∈ ks ∨ x = k := by
  unfold addKey
  split
  · next h => exact ⟨.inl, fun h2 => h2.elim id fun e => by rw [e]; exact h⟩
  · simp
theorem keys_spec : ∀ (es : List (Int × Int)) (ks : List Int), ks.Nodup → (es.foldl (fun ks e => addKey (addKey ks e.1) e.2) ks).Nodup ∧ ∀ x, x ∈ es.foldl (fun ks e => addKey (addKey ks e.1) e.2) ks ↔ x ∈ ks ∨ ∃ e ∈ es, x = e.1 ∨ x = e.2
  | [], ks, h => ⟨h, fun x => by simp⟩
  | e :: es, ks, h => by
    obtain ⟨a, b⟩ := keys_spec es (addKey (addKey ks e.1) e.2) (addKey_nodup (addKey_nodup h _) _)
    refine ⟨a, fun x => ?_⟩
    rw [List.foldl_cons, b, mem_addKey, mem_addKey]
    simp only [List.mem_cons, exists_eq_or_imp, or_assoc]
theorem nodup_le : ∀ (l m : List Int), l.Nodup → (∀ x ∈ l, x ∈ m) → l.length ≤ m.length
  | [], _, _, _ => by simp
  | a :: l, m, h, hs => by
    have h1 := List.nodup_cons.1 h
    have hm : a ∈ m := hs a (by simp)
    have := nodup_le l (m.erase a) h1.2 fun x hx => (List.mem_erase_of_ne (fun e => h1.1 (by rw [← e]; exact hx))).2 (hs x (by simp [hx]))
    rw [List.length_erase_of_mem hm] at this
    have := List.length_pos_of_mem hm
    simp only [List.length_cons]
    omega
def ksE (ks : List Int) : List (AVal × AVal) := ks.map fun k => (i64 k, .bool true)
theorem mpPut_keys (k : Int) : ∀ ks : List Int, mpPut (i64 k) (.bool true) (ksE ks) = some (ksE (addKey ks k))
  | [] => rfl
  | a :: ks => by
    have ih := mpPut_keys k ks
    show mpPut (i64 k) (.bool true) ((i64 a, .bool true) :: ksE ks) = _
    have e : keyIs (i64 k) (i64 a) = some (k == a) := by unfold keyIs; simp
    unfold mpPut
    simp only [e]
    by_cases h : k = a
    · subst h
      simp only [beq_self_eq_true]
      unfold addKey
      rw [if_pos (by simp)]; rfl
    · rw [beq_eq_false_iff_ne.2 h]
      simp only [ih, Option.map_some]
      unfold addKey
      by_cases h2 : k ∈ ks
      · rw [if_pos h2, if_pos (by simp [h2])]; rfl
      · rw [if_neg h2, if_neg (by simp [h, h2])]; rfl
def MpK (h : H) (o : Nat) (ks : List Int) : Prop := h[o]? = some (.mp (ksE ks))
theorem MpK.lt {h o ks} (x : MpK h o ks) : o < h.length := (List.getElem?_eq_some_iff.1 x).1
theorem MpK.ext {h h' o ks} (x : MpK h o ks) (e : Ext h h') : MpK h' o ks := e.own x
theorem MpK.but {h h' o ks} {p : Option Nat} (x : MpK h o ks) (b : But p h h') (hn : p ≠ some o) : MpK h' o ks := b.get x hn
theorem mput_k {h : H} {o : Nat} {ks : List Int} (x : MpK h o ks) (k : Int) {K : H → Prop} (hk : ∀ h', MpK h' o (addKey ks k) → But (some o) h h' → h'.length = h.length → K h') : mput (.map (some o)) (i64 k) (.bool true) h K :=
  ⟨o, _, _, rfl, x, mpPut_keys k ks, hk _ (by unfold MpK; have := x.lt; simp [this]) ⟨by simp, fun i hi hne => by rw [List.getElem?_set, if_neg (fun e => hne (by rw [e]))]⟩ (by simp)⟩
theorem mlen_k {h : H} {o : Nat} {ks : List Int} (x : MpK h o ks) {K : Int → Prop} (hk : K (ks.length : Nat)) : mlen (.map (some o)) h K :=
  ⟨some o, ksE ks, rfl, by simp only [mapAt]; rw [show h[o]? = some (.mp (ksE ks)) from x], by rw [show (ksE ks).length = ks.length from List.length_map _]; exact hk⟩
/-! ### the numbers -/
def fM (x : Int) : Int := x % MD
theorem fitM : Fit fM 10006 := ⟨by decide, by decide, fun x _ => by have := emodMD x; unfold fM; have h2 : x % MD < 10007 := this.2; omega⟩
def gR (W : Nat) (t : List Int) (y : Int) : List Int × Bool := (t ++ [y], decide (((t.length + 1 : Nat) : Int) < 2 * (W : Int) + 2))
theorem runQ_R {es : List (Int × Int)} {N W : Nat} : ∀ (j m : Nat) (now out : List Int), 1 ≤ j → j ≤ m → out.length + j = 2 * W + 2 → runQ fM es N (gR W) m out now = out ++ seqL fM es N j now
  | 0, m, now, out, h, _, _ => by omega
  | j + 1, 0, now, out, _, h, _ => by omega
  | j + 1, m + 1, now, out, h1, h2, hn => by
    rw [runQ, seqL]
    generalize totL fM (stepL fM es N now) = y
    have e1 : (gR W out y).1 = out ++ [y] := rfl
    cases j with
    | zero =>
      have e2 : (gR W out y).2 = false := decide_eq_false (by omega)
      rw [if_neg (by rw [e2]; decide), e1]; rfl
    | succ j =>
      have e2 : (gR W out y).2 = true := decide_eq_true (by omega)
      rw [if_pos e2, e1, runQ_R (j + 1) m (stepL fM es N now) (out ++ [y]) (by omega) (by omega) (by simp; omega)]
      simp
theorem seqM_bm {es : List (Int × Int)} {N : Nat} : ∀ (k : Nat) (now : List Int), Bd 10006 now → Bm (seqL fM es N k now)
  | 0, _, _ => Bm.nil
  | k + 1, now, hb => fun x hx => by
    rw [seqL] at hx
    have hs := stepL_bd (es := es) (N := N) fitM hb
    rcases List.mem_cons.1 hx with rfl | hx
    · have := totL_bd fitM hs.1 _ (Nat.le_refl _)
      rw [List.take_length] at this
      exact ⟨this.1, Int.lt_of_le_of_lt this.2 (by decide)⟩
    · exact seqM_bm k _ hs.1 x hx
theorem sum_setI : ∀ (l : List Int) (i : Nat) (x : Int), i < l.length → (l.set i x).sum = l.sum - l.getD i 0 + x
  | [], i, x, h => by simp at h
  | a :: l, 0, x, _ => by simp; omega
  | a :: l, i + 1, x, h => by
    simp only [List.set_cons_succ, List.sum_cons, List.getD_cons_succ]
    rw [sum_setI l i x (by simpa using h)]; omega
theorem fold_mod : ∀ (l : List Int) (s : Int), l.foldl (fun s x => fM (s + x)) s % MD = (s + l.sum) % MD
  | [], s => by simp
  | a :: l, s => by
    rw [List.foldl_cons, fold_mod l, List.sum_cons]
    unfold fM
    rw [Int.emod_add_emod]
    congr 1; omega
theorem fold_ones {N : Nat} {now : List Int} (hone : ∀ i, i < N → now.getD i 0 = 1) : ∀ (es : List (Int × Int)) (nx : List Int), nx.length = N → (∀ e ∈ es, (0 ≤ e.1 ∧ e.1 < N) ∧ 0 ≤ e.2 ∧ e.2 < N) → (es.foldl (stp fM now) nx).sum % MD = (nx.sum + es.length) % MD
  | [], nx, _, _ => by simp
  | e :: es, nx, hl, he => by
    have h := he e (by simp)
    rw [List.foldl_cons, fold_ones hone es _ (by rw [stp_len, hl]) (fun e' h' => he e' (by simp [h']))]
    unfold stp
    rw [sum_setI _ _ _ (by omega), hone _ (by omega)]
    generalize nx.getD e.2.toNat 0 = y
    unfold fM
    simp only [List.length_cons]
    have hm : ((nx.sum - y + (y + 1) % MD) + (es.length : Int)) % MD = (nx.sum - y + (y + 1) + es.length) % MD := by
      unfold MD
      omega
    rw [hm]
    congr 1
    push_cast
    omega
theorem stepL_nil (N : Nat) (now : List Int) : stepL fM [] N now = List.replicate N 0 := rfl
theorem zeros_tot : ∀ N : Nat, totL fM (List.replicate N 0) = 0 := fun N => by
  unfold totL
  induction N with
  | zero => rfl
  | succ N ih => rw [List.replicate_succ, List.foldl_cons]; exact ih
theorem seqM_zero {N : Nat} : ∀ (k : Nat) (now : List Int) (i : Nat), (seqL fM [] N k now).getD i 0 = 0
  | 0, _, i => by simp [seqL]
  | k + 1, now, 0 => by rw [seqL, stepL_nil, zeros_tot]; rfl
  | k + 1, now, i + 1 => by rw [seqL, List.getD_cons_succ]; exact seqM_zero k _ i
theorem seqM_first {es : List (Int × Int)} {N k : Nat} (hes : ∀ e ∈ es, (0 ≤ e.1 ∧ e.1 < N) ∧ 0 ≤ e.2 ∧ e.2 < N) (h0 : 0 < es.length) (h5 : es.length ≤ 5000) : (seqL fM es N (k + 1) (List.replicate N 1)).getD 0 0 ≠ 0 := by
  rw [seqL]
  show totL fM (stepL fM es N (List.replicate N 1)) ≠ 0
  have hb := totL_bd fitM (stepL_bd (es := es) (N := N) fitM (bd_one (by decide) N)).1 _ (Nat.le_refl _)
  rw [List.take_length] at hb
  have h1 := fold_mod (stepL fM es N (List.replicate N 1)) 0
  have h2 := fold_ones (N := N) (now := List.replicate N 1) (fun i hi => by rw [List.getD_eq_getElem?_getD, List.getElem?_replicate, if_pos hi]; rfl) es (List.replicate N 0) (by simp) hes
  have h3 : (List.replicate N (0 : Int)).sum = 0 := by simp
  rw [h3] at h2
  intro e
  change (totL fM (stepL fM es N (List.replicate N 1))) % MD = _ at h1
  change (stepL fM es N (List.replicate N 1)).sum % MD = _ at h2
  rw [e, Int.zero_add, h2] at h1
  have : (0 : Int) % 10007 = (0 + (es.length : Int)) % 10007 := h1
  omega
/-- The numbers of a height, as many as its recurrence needs. -/
def recA (c : Int) (ts : List Tile) (n : Int) : List Int := seqL fM (colsOf c ts n) (c ^ n.toNat).toNat (2 * (keysOf (colsOf c ts n)).length + 2) (List.replicate (c ^ n.toNat).toNat 1)
noncomputable def codeR (c : Int) (ts : List Tile) (n : Int) : Int := if codeS c ts n ≠ 0 then codeS c ts n else if 40 < (keysOf (colsOf c ts n)).length then 3 else 0
noncomputable def F_RecurrenceOf_0 (c : Int) (ts : List Tile) (n : Int) : List Int := sel0 (codeR c ts n = 0) (runI (recA c ts n) (recA c ts n).length).now
theorem codeR_1 {c : Int} {ts : List Tile} {n : Int} (h : codeS c ts n ≠ 0) : codeR c ts n = codeS c ts n := by unfold codeR; rw [if_pos h]
theorem codeR_2 {c : Int} {ts : List Tile} {n : Int} (h : codeS c ts n = 0) (h2 : 40 < (keysOf (colsOf c ts n)).length) : codeR c ts n = 3 := by unfold codeR; rw [if_neg (by rw [h]; decide), if_pos h2]
theorem codeR_0 {c : Int} {ts : List Tile} {n : Int} (h : codeS c ts n = 0) (h2 : ¬ 40 < (keysOf (colsOf c ts n)).length) : codeR c ts n = 0 := by unfold codeR; rw [if_neg (by rw [h]; decide), if_neg h2]
theorem recA_bm (c : Int) (ts : List Tile) (n : Int) : Bm (recA c ts n) := seqM_bm _ _ (bd_one (by decide) _)
theorem recA_len (c : Int) (ts : List Tile) (n : Int) : (recA c ts n).length = 2 * (keysOf (colsOf c ts n)).length + 2 := by unfold recA; rw [seqL_len]
theorem RecurrenceOf_small0 {c : Int} {ts : List Tile} {n : Int} (sz : ts.length ≤ 1048576) (bn : i64ok n) : (F_RecurrenceOf_0 c ts n).length < 1000000 := by
  by_cases h : codeR c ts n = 0
  · rw [F_RecurrenceOf_0, sel0_yes h]
    have h1 := (si_run (recA_bm c ts n) (recA c ts n).length).ln
    have h2 := recA_len c ts n
    have : (keysOf (colsOf c ts n)).length ≤ 40 := by
      by_cases h3 : codeS c ts n = 0
      · by_cases h4 : 40 < (keysOf (colsOf c ts n)).length
        · rw [codeR_2 h3 h4] at h; cases h
        · omega
      · rw [codeR_1 h3] at h; exact absurd h h3
    omega
  · rw [F_RecurrenceOf_0, sel0_no h]; decide
section
variable {h0 : H} {c : Int} {s : Sl} {ts : List Tile} {n : Int}
set_option maxHeartbeats 1000000 in
theorem impl_RecurrenceOf_c (r : Rd h0 s 4 (tcs ts)) (sz : ts.length ≤ 1048576) (bn : i64ok n) :
    callV SP i_impl_RecurrenceOf [.agg (SetC c s), i64 n] h0 fun v h' => ∃ w, v = .tuple [.sl w, i64 (codeR c ts n)] ∧ Ow h' w 1 (ic (F_RecurrenceOf_0 c ts n)) ∧ Fr h0.length w ∧ Ext h0 h' := by
  have fin : ∀ {h' : H} (k : Int), codeR c ts n ≠ 0 → k = codeR c ts n → Ext h0 h' → ∃ w, AVal.tuple [.sl Sl.nil, i64 k] = .tuple [.sl w, i64 (codeR c ts n)] ∧ Ow h' w 1 (ic (F_RecurrenceOf_0 c ts n)) ∧ Fr h0.length w ∧ Ext h0 h' := fun k hq hk x =>
    ⟨_, by rw [hk], by rw [F_RecurrenceOf_0, sel0_no hq]; exact Ow.nil _ _, Fr.nil _, x⟩
  apply impl_RecurrenceOf_call
  unfold impl_RecurrenceOf_main
  refine newK_obj fun h1 o1 x1 l1 => ?_
  refine o1.ldA rfl ?_
  refine (stripOf_c (n := n) (r.ext x1) sz).to ?_
  rintro _ ha ⟨p, rfl, hp, xa⟩
  refine ⟨_, rfl, _, rfl, _, rfl, _, rfl, ?_⟩
  have Xa := x1.trans xa
  refine bif_ne (fun h2 => fin _ (by rw [codeR_1 h2]; exact h2) (codeR_1 h2).symm Xa) (fun h2 => ?_)
  obtain ⟨os, q, rfl, k⟩ := hp h2
  have ok := codeS_ok h2
  have hs := ok.set
  have T := hs.ts
  obtain ⟨H_, rfl⟩ : ∃ H_ : Nat, n = H_ := ⟨n.toNat, by have := ok.hh; omega⟩
  have hof : colsOf c ts (H_ : Int) = colP c ts H_ (-1) 0 0 := by unfold colsOf; rw [Int.toNat_natCast]
  rw [Int.toNat_natCast] at k
  have hln := ok.ln
  rw [hof, ← colsI_len T] at hln
  have hHH := ok.hh
  have hp1 := pow_small4 (n := H_) T.1 hs.1.2 (by omega)
  obtain ⟨N, hN⟩ : ∃ N : Nat, (N : Int) = c ^ H_ := ⟨(c ^ H_).toNat, by omega⟩
  have hce : colsOf c ts (H_ : Int) = (colsI c ts H_).map pr := by rw [hof, colsI_pr T]
  have hrec : recA c ts (H_ : Int) = seqL fM ((colsI c ts H_).map pr) N (2 * (keysOf ((colsI c ts H_).map pr)).length + 2) (List.replicate N 1) := by
    unfold recA
    rw [hce, Int.toNat_natCast, show (c ^ H_).toNat = N by omega]
  -- the map
  show newM ha _
  unfold newM
  have xb : Ext ha (ha ++ [.mp []]) := Ext.app _ _
  have mb : MpK (ha ++ [.mp []]) ha.length [] := by unfold MpK ksE; simp
  generalize ehb : ha ++ [AObj.mp []] = hb at xb mb
  have lb : hb.length = ha.length + 1 := by rw [← ehb]; simp
  refine newO_var fun hc vc xc lc => ?_
  show Cl.st1 (pt hb.length) (.map (some ha.length)) hc _
  refine vc.st _ fun hd vd bd ld => ?_
  have xd : Ext hb hd := xc.but_ bd (some_le (Nat.le_refl _))
  have Xd := Xa.trans (xb.trans xd)
  have md := mb.ext xd
  have kd := k.ext (xb.trans xd)
  refine ⟨rfl, isPt_in (kd.o.ldS (i := 4) rfl rfl ?_)⟩
  have hql := k.len
  have hcb : ∀ e ∈ (colsI c ts H_).map pr, (0 ≤ e.1 ∧ e.1 < N) ∧ 0 ≤ e.2 ∧ e.2 < N := fun e he => by
    rw [colsI_pr T] at he
    have := colP_bound T H_ (-1) 0 0 1 (by omega) (by omega) e he
    rw [Int.one_mul, ← hN] at this
    exact this
  refine impl_RecurrenceOf_rule0 _ _ _ _ _ _ (fun j g => ∃ z : Nat, j = z ∧ z ≤ (colsI c ts H_).length ∧ MpK g ha.length (keysOf (((colsI c ts H_).map pr).take z)) ∧ Var g hb.length (.map (some ha.length)) ∧ Ext ha g ∧ hd.length ≤ g.length) (fun j _ => ((colsI c ts H_).length - j).toNat) ?_ _ ⟨0, rfl, by omega, md, vd, xb.trans xd, Nat.le_refl _⟩
  rintro X _ g ⟨z, rfl, hz, mg, vg, xg, lg⟩ hX
  unfold impl_RecurrenceOf_b0
  refine bif_dec (fun hi => ?_) (fun hi => ?_)
  · have hzc : z < (colsI c ts H_).length := by omega
    refine (k.ext xg).cols.rd.ldC hzc ?_
    have htk : ((colsI c ts H_).map pr).take (z + 1) = ((colsI c ts H_).map pr).take z ++ [((colsI c ts H_)[z].1, (colsI c ts H_)[z].2.1)] := by
      rw [List.take_add_one, List.getElem?_map, List.getElem?_eq_getElem hzc]; rfl
    generalize (colsI c ts H_)[z] = x3 at htk ⊢
    refine newO_obj fun g3 og3 y3 m3 => ?_
    refine og3.stA fun g4 og4 b4 m4 => ?_
    have y4 : Ext g g4 := y3.but_ b4 (some_le (Nat.le_refl _))
    have m4' := mg.ext y4
    have v4 := vg.ext y4
    have hml := mg.lt
    have hvl := vg.lt
    refine v4.ldV ?_
    have rdc : ∀ {i : Nat} {K : Pt → Int → Prop} (hi : i < 3), (∀ p, cell g4 p = some (i64 ([x3.1, x3.2.1, x3.2.2].getD i 0)) → p.o = some g.length → K p ([x3.1, x3.2.1, x3.2.2].getD i 0)) → ixA ⟨some g.length, 3, 0⟩ 3 1 (i : Int) fun p => Cl.ldI .i64 p g4 (K p) := fun {i K} hi hk => by
      refine ⟨⟨by omega, by omega⟩, rfl, ?_⟩
      have hce : cell g4 (Pt.add ⟨some g.length, 3, 0⟩ ((i : Int).toNat * 1)) = some (i64 ([x3.1, x3.2.1, x3.2.2].getD i 0)) := by
        match i, hi with
        | 0, _ => exact og4.cellE (i := 0) rfl
        | 1, _ => exact og4.cellE (i := 1) rfl
        | 2, _ => exact og4.cellE (i := 2) rfl
      exact ⟨_, hce, hk _ hce rfl⟩
    refine rdc (i := 0) (by omega) fun p6 _ _ => ?_
    refine v4.ldV ?_
    refine rdc (i := 1) (by omega) fun p9 hp9 po9 => ?_
    show mput (.map (some ha.length)) (i64 x3.1) (.bool true) g4 _
    refine mput_k m4' _ fun g5 m5 b5 n5 => ?_
    have v5 := v4.but b5 (fun e => by have := Option.some.inj e; omega)
    refine ⟨b5.cellE hp9 (.inl (by rw [po9]; exact sneS (by omega))), by rw [v5.cell, v4.cell], ?_⟩
    show mput (.map (some ha.length)) (i64 x3.2.1) (.bool true) g5 _
    refine mput_k m5 _ fun g6 m6 b6 n6 => ?_
    have v6 := v5.but b6 (fun e => by have := Option.some.inj e; omega)
    have hy := y4.len
    rw [w64_of (n := (z : Int) + 1) (by omega) (by omega)]
    refine hX _ _ ⟨z + 1, by push_cast; rfl, hzc, ?_, v6, ((xg.trans y4).but_ b5 (some_le (Nat.le_refl _))).but_ b6 (some_le (Nat.le_refl _)), by omega⟩ (by omega)
    have ek : keysOf (((colsI c ts H_).map pr).take (z + 1)) = addKey (addKey (keysOf (((colsI c ts H_).map pr).take z)) x3.1) x3.2.1 := by
      rw [htk]; unfold keysOf; rw [List.foldl_append]; rfl
    rw [ek]; exact m6
  have hzl : z = (colsI c ts H_).length := by omega
  subst hzl
  rw [List.take_of_length_le (by simp)] at mg
  unfold impl_RecurrenceOf_C0
  have hWe : keysOf (colsOf c ts (H_ : Int)) = keysOf ((colsI c ts H_).map pr) := by rw [hce]
  refine vg.ldV ?_
  refine mlen_k mg ?_
  have Xg := Xa.trans xg
  refine bif_dec (fun hw => ?_) (fun hw => ?_)
  · have hQ := codeR_2 h2 (by rw [hWe]; omega)
    exact fin 3 (by rw [hQ]; decide) hQ.symm Xg
  have hQ := codeR_0 h2 (by rw [hWe]; omega)
  generalize hW : (keysOf ((colsI c ts H_).map pr)).length = W at hw hrec
  refine newS_ow (by rfl) fun u h18 ou lu uo e18 => ?_
  have x18 : Ext g h18 := by rw [e18]; exact Ext.app _ _
  have l18 : h18.length = g.length + 1 := by rw [e18]; simp
  refine newO_var fun h20 v20 x20 l20 => ?_
  refine v20.st _ fun h24 v24 b24 l24 => ?_
  have x24 : Ext g h24 := x18.trans (x20.but_ b24 (some_le (Nat.le_refl _)))
  have ou24 : Ow h24 u 1 (ic []) := (ou.ext x20).but b24 (.inl (by rw [uo]; exact sneS (by omega)))
  have X24 : Ext ha h24 := xg.trans x24
  have hgl := xg.len
  have hml := mg.lt
  have hvl := vg.lt
  let I : List Int → H → Prop := fun t h => ∃ u, Var h h18.length (.sl u) ∧ Ow h u 1 (ic t) ∧ u.o = some g.length ∧ Var h hb.length (.map (some ha.length)) ∧ MpK h ha.length (keysOf ((colsI c ts H_).map pr))
  have hinit : I [] h24 := ⟨u, v24, ou24, uo, vg.ext x24, mg.ext x24⟩
  let R := runQ fM ((colsI c ts H_).map pr) N (gR W) (2 * W + 3) [] (List.replicate N 1)
  have hrun := runQ_R (es := (colsI c ts H_).map pr) (N := N) (W := W) (2 * W + 2) (2 * W + 3) (List.replicate N 1) [] (by omega) (by omega) (by simp)
  rw [← hrec, List.nil_append] at hrun
  apply impl_strip_sequence_call
  unfold impl_strip_sequence_main
  refine newS_ow (by rfl) fun z g1 oz lz zo e1 => ?_
  have y1 : Ext h24 g1 := by rw [e1]; exact Ext.app _ _
  have k1 := k.ext (X24.trans y1)
  refine ⟨rfl, isPt_in (k1.o.ldI (i := 3) rfl rfl ?_)⟩
  refine (repeatI_c oz.rd (by omega) (by omega)).to ?_
  rintro w g3 ⟨ow, fw, y3⟩
  have hrep : List.replicate (c ^ H_).toNat (i64 1) = ic (List.replicate N 1) := by rw [show (c ^ H_).toNat = N by omega]; simp [ic, List.map_replicate]
  rw [hrep] at ow
  have y1l := y1.len
  have y3l := y3.len
  have Y3 := y1.trans y3
  have X24l := X24.len
  have till : ∀ t h h', I t h → Till h24.length h h' → I t h' := fun t h h' ⟨u, a1, a2, a3, a4, a5⟩ tl => ⟨u, a1.till tl (by omega), (by
    obtain ⟨p, q⟩ | ⟨o, p, b, cc, d, e⟩ := a2.at_
    · exact ⟨a2.len, .inl ⟨p, q⟩⟩
    · exact ⟨a2.len, .inr ⟨o, p, b, cc, d, tl.get e (by rw [a3] at p; have := Option.some.inj p; omega)⟩⟩), a3, a4.till tl (by omega), tl.get a5 (by omega)⟩
  refine seqLoop (σ := List Int) (g := gR W) (I := I) (J := fun t => ((t.length : Nat) : Int) < 2 * (W : Int) + 2) (n1 := h24.length) (capf := []) (capv := [.ptr (pt h18.length), .ptr (pt hb.length)]) k T hs.1.2 (by omega) hN fitM hln ?_ till (by omega) (fun t y f => ?_) ?_ (fun t => 2 * W + 2 - t.length) (fun t y f => ?_) (R := R) ?_ (2 * W + 3) [] (List.replicate N 1) w g3 (by simp) rfl (bd_one (by decide) N) (by simp) ow (fw.le (by omega)) (by show ((([] : List Int).length : Nat) : Int) < _; simp; omega) (till _ _ _ hinit (Y3.till _)) (X24.trans Y3) (by omega)
  · intro x h K _ _ hk
    exact modulo_k hk
  · simp only [gR, decide_eq_true_eq] at f ⊢
    simp only [List.length_append, List.length_singleton]
    exact f
  · rintro t y h' jt ⟨u, i1, i2, i3, i4, i5⟩ y0 yB x hh
    have jt' : ((t.length : Nat) : Int) < 2 * (W : Int) + 2 := jt
    have hul := i2.rd.ilen
    apply impl_RecurrenceOf_1_call
    unfold impl_RecurrenceOf_1_main
    refine i1.ldS ?_
    refine pushI4 i2 (by unfold lim; omega) fun u' g4 ou' bu ku => ?_
    rw [i3] at bu
    have huo := ku _ i3
    have hul' := ou'.rd.ilen
    have i14 := i1.but bu (sneS (by omega))
    refine i14.st _ fun g5 j5 b5 l5 => ?_
    have v5 := (i4.but bu (sneS (by omega))).but b5 (sneS (by omega))
    have m5 := (i5.but bu (sneS (by omega))).but b5 (sneS (by omega))
    refine j5.ldS (v5.ldV (mlen_k m5 ?_))
    rw [hW, w64_of (n := 2 * (W : Int)) (by omega) (by omega), w64_of (n := 2 * (W : Int) + 2) (by omega) (by omega)]
    have CG : Chg (fun i => ha.length ≤ i ∧ i < h24.length) h' g5 := (bu.chg fun i e => by have := Option.some.inj e; omega).trans (b5.chg fun i e => by have := Option.some.inj e; omega)
    refine ⟨_, rfl, ?_, ⟨u', j5, ou'.but b5 (.inl (by rw [huo]; exact sneS (by omega))), huo, v5, m5⟩, CG⟩
    show decide ((u'.len : Int) < 2 * (W : Int) + 2) = decide (((t.length + 1 : Nat) : Int) < 2 * (W : Int) + 2)
    rw [hul', List.length_append, List.length_singleton]
  · simp only [gR, decide_eq_true_eq] at f ⊢
    simp only [List.length_append, List.length_singleton]
    omega
  · rintro h' ⟨u, i1, i2, i3, i4, i5⟩ x
    have hR : R = recA c ts (H_ : Int) := hrun
    rw [hR] at i2
    refine i1.ldS ?_
    have hlen := recA_len c ts (H_ : Int)
    rw [hWe, hW] at hlen
    refine (impl_shortest_c (recA_bm c ts (H_ : Int)) (by omega) i2.rd).to ?_
    rintro v g9 ⟨ov, fv, x9⟩
    have hxl := (Xa.trans x).len
    refine ⟨v, by rw [hQ], ?_, fv.le hxl, (Xa.trans x).trans x9⟩
    rw [F_RecurrenceOf_0, sel0_yes hQ]
    exact ov
end
end Go.Proofs.Ytnamnpbkiibadaa.Cl

/- Walks of rounds, counted from both ends; sums that stop at a bound; maps of numbers: plain. No claim is stated here. -/
set_option linter.unusedVariables false
set_option linter.unusedSimpArgs false
namespace Go.Proofs.Ytnamnpbkiibadaa.Cl
open Go
abbrev PL := List (Int × Int)
def fw (R : PL) : Nat → Int → Nat
  | 0, _ => 1
  | n + 1, k => (R.map fun e => if e.1 = k then fw R n e.2 else 0).sum
def bw (R : PL) : Nat → Int → Nat
  | 0, _ => 1
  | n + 1, k => (R.map fun e => if e.2 = k then bw R n e.1 else 0).sum
theorem sum_comm {α β : Type} (f : α → β → Nat) : ∀ (l : List α) (m : List β), (l.map fun a => (m.map fun b => f a b).sum).sum = (m.map fun b => (l.map fun a => f a b).sum).sum
  | [], m => by simp [sum_zero]
  | a :: l, m => by
    simp only [List.map_cons, List.sum_cons]
    rw [sum_comm f l m, ← sum_add]
theorem sum_mulr {α : Type} (f : α → Nat) (c : Nat) : ∀ l : List α, (l.map f).sum * c = (l.map fun a => f a * c).sum
  | [] => by simp
  | a :: l => by simp only [List.map_cons, List.sum_cons, Nat.add_mul, sum_mulr f c l]
theorem sum_mull {α : Type} (f : α → Nat) (c : Nat) : ∀ l : List α, c * (l.map f).sum = (l.map fun a => c * f a).sum
  | [] => by simp
  | a :: l => by simp only [List.map_cons, List.sum_cons, Nat.mul_add, sum_mull f c l]
theorem sum_cong {α : Type} {f g : α → Nat} {l : List α} (h : ∀ a ∈ l, f a = g a) : (l.map f).sum = (l.map g).sum := by rw [List.map_congr_left h]
theorem fb_step (R : PL) (n m : Nat) : (R.map fun e => bw R (n + 1) e.1 * fw R m e.2).sum = (R.map fun e => bw R n e.1 * fw R (m + 1) e.2).sum := by
  have e1 : (R.map fun e => bw R (n + 1) e.1 * fw R m e.2).sum = (R.map fun e => (R.map fun d => (if d.2 = e.1 then bw R n d.1 else 0) * fw R m e.2).sum).sum :=
    sum_cong fun e _ => by rw [bw, sum_mulr]
  have e2 : (R.map fun e => bw R n e.1 * fw R (m + 1) e.2).sum = (R.map fun d => (R.map fun e => (if d.2 = e.1 then bw R n d.1 else 0) * fw R m e.2).sum).sum :=
    sum_cong fun d _ => by
      rw [fw, sum_mull]
      refine sum_cong fun e _ => ?_
      by_cases h : d.2 = e.1
      · rw [if_pos h, if_pos h.symm]
      · rw [if_neg h, if_neg (fun e => h e.symm)]; simp
  rw [e1, e2, sum_comm]
theorem fb_all (R : PL) : ∀ n m : Nat, (R.map fun e => bw R n e.1 * fw R m e.2).sum = (R.map fun e => bw R 0 e.1 * fw R (m + n) e.2).sum
  | 0, m => rfl
  | n + 1, m => by rw [fb_step, fb_all R n (m + 1), show m + 1 + n = m + (n + 1) by omega]
theorem fb_total (R : PL) (n : Nat) : (R.map fun e => fw R n e.2).sum = (R.map fun e => bw R n e.1).sum := by
  have := fb_all R n 0
  simp only [bw, fw, Nat.one_mul, Nat.mul_one, Nat.zero_add] at this
  exact this.symm
def Same (R Q : PL) : Prop := ∀ g : Int × Int → Nat, (R.map g).sum = (Q.map g).sum
theorem fw_same {R Q : PL} (h : Same R Q) : ∀ n k, fw R n k = fw Q n k
  | 0, k => rfl
  | n + 1, k => by
    rw [fw, fw, h]
    exact sum_cong fun e _ => by rw [fw_same h n]
/-- all walks of n + 1 rounds -/
def tot (R : PL) (n : Nat) : Nat := (R.map fun e => fw R n e.2).sum
theorem tot_same {R Q : PL} (h : Same R Q) (n : Nat) : tot R n = tot Q n := by
  unfold tot
  rw [h]
  exact sum_cong fun e _ => by rw [fw_same h n]
theorem fw_tot {R : PL} {N n : Nat} (h : ∀ e ∈ R, 0 ≤ e.1 ∧ e.1 < N) : ((List.range N).map fun (y : Nat) => fw R (n + 1) (y : Int)).sum = tot R n := by
  unfold tot
  rw [← sum_swap (fun e : Int × Int => e.1) (fun e _ => fw R n e.2) R h]
  rfl
theorem key_sum {ks : List Int} (h : ks.Nodup) {x : Int} (hx : x ∈ ks) (v : Nat) : (ks.map fun k => if x = k then v else 0).sum = v := by
  induction ks with
  | nil => cases hx
  | cons a ks ih =>
    have h1 := List.nodup_cons.1 h
    simp only [List.map_cons, List.sum_cons]
    by_cases e : x = a
    · rw [if_pos e]
      have : (ks.map fun k => if x = k then v else 0).sum = 0 := by
        rw [sum_cong (g := fun _ => 0) fun k hk => if_neg fun e2 => h1.1 (by rw [← e, e2]; exact hk), sum_zero]
      omega
    · rw [if_neg e, ih h1.2 (by simpa [e] using hx)]; omega
theorem bw_tot {R : PL} {ks : List Int} {n : Nat} (h : ks.Nodup) (hx : ∀ e ∈ R, e.2 ∈ ks) : (ks.map fun k => bw R (n + 1) k).sum = tot R n := by
  unfold tot
  rw [fb_total]
  have : (ks.map fun k => bw R (n + 1) k).sum = (ks.map fun k => (R.map fun e => if e.2 = k then bw R n e.1 else 0).sum).sum := rfl
  rw [this, sum_comm]
  exact sum_cong fun e he => key_sum h (hx e he) _
/-! ### sums that stop -/
def M1 : Nat := 1000000000000001
def sat (n : Nat) : Nat := min n M1
theorem sat_le (n : Nat) : sat n ≤ 1000000000000001 := by unfold sat M1; omega
theorem sat_add (a b : Nat) : sat (sat a + sat b) = sat (a + b) := by unfold sat M1; omega
theorem sat_addI (a b : Nat) : mnI (w64 ((sat a : Int) + (sat b : Int))) 1000000000000001 = (sat (a + b) : Int) := by
  have := sat_le a
  have := sat_le b
  rw [w64_of (by omega) (by omega)]
  unfold mnI sat M1
  split <;> omega
theorem sat_addJ (a b : Nat) : mnI 1000000000000001 (w64 ((sat a : Int) + (sat b : Int))) = (sat (a + b) : Int) := by
  have := sat_le a
  have := sat_le b
  rw [w64_of (by omega) (by omega)]
  unfold mnI sat M1
  split <;> omega
theorem sat_self (n : Nat) (h : n ≤ 1000000000000000) : sat n = n := by unfold sat M1; omega
/-! ### maps of numbers -/
def putI (k v : Int) : PL → PL
  | [] => [(k, v)]
  | e :: es => if k = e.1 then (k, v) :: es else e :: putI k v es
def lkI (k : Int) : PL → Int
  | [] => 0
  | e :: es => if k = e.1 then e.2 else lkI k es
theorem lk_put (k v j : Int) : ∀ es : PL, lkI j (putI k v es) = if j = k then v else lkI j es
  | [] => by simp [putI, lkI]
  | e :: es => by
    unfold putI
    by_cases h : k = e.1
    · rw [if_pos h]
      simp only [lkI]
      by_cases h2 : j = k
      · rw [if_pos h2, if_pos h2]
      · rw [if_neg h2, if_neg h2, if_neg (by rw [← h]; exact h2)]
    · rw [if_neg h]
      simp only [lkI, lk_put k v j es]
      by_cases h2 : j = k
      · subst h2; simp [h]
      · simp only [if_neg h2]
theorem keys_put (k v : Int) : ∀ es : PL, (putI k v es).map (·.1) = addKey (es.map (·.1)) k
  | [] => rfl
  | e :: es => by
    unfold putI
    by_cases h : k = e.1
    · rw [if_pos h, List.map_cons, List.map_cons]
      unfold addKey
      rw [if_pos (by simp [h])]
      simp [h]
    · rw [if_neg h, List.map_cons, keys_put k v es, List.map_cons]
      unfold addKey
      by_cases h2 : k ∈ es.map (·.1)
      · rw [if_pos h2, if_pos (by simp only [List.mem_cons]; exact .inr h2)]
      · rw [if_neg h2, if_neg (by simp only [List.mem_cons, not_or]; exact ⟨h, h2⟩)]; rfl
theorem lk_mem {es : PL} (h : (es.map (·.1)).Nodup) {e : Int × Int} (he : e ∈ es) : lkI e.1 es = e.2 := by
  induction es with
  | nil => cases he
  | cons a es ih =>
    rw [List.map_cons] at h
    have h1 := List.nodup_cons.1 h
    simp only [lkI]
    rcases List.mem_cons.1 he with rfl | h2
    · rw [if_pos rfl]
    · rw [if_neg (fun e2 => h1.1 (by rw [← e2]; exact List.mem_map.2 ⟨e, h2, rfl⟩)), ih h1.2 h2]
def mpE (es : PL) : List (AVal × AVal) := es.map fun e => (i64 e.1, i64 e.2)
theorem mpPut_I (k v : Int) : ∀ es : PL, mpPut (i64 k) (i64 v) (mpE es) = some (mpE (putI k v es))
  | [] => rfl
  | a :: es => by
    have ih := mpPut_I k v es
    show mpPut (i64 k) (i64 v) ((i64 a.1, i64 a.2) :: mpE es) = _
    have e : keyIs (i64 k) (i64 a.1) = some (k == a.1) := by unfold keyIs; simp
    unfold mpPut putI
    simp only [e]
    by_cases h : k = a.1
    · rw [beq_iff_eq.2 h, if_pos h]; rfl
    · rw [beq_eq_false_iff_ne.2 h, if_neg h]
      simp only [ih, Option.map_some]; rfl
theorem mpFind_I (k : Int) : ∀ es : PL, ∃ f, mpFind (i64 k) (mpE es) = some f ∧ ((f = none ∧ lkI k es = 0) ∨ f = some (i64 (lkI k es)))
  | [] => ⟨none, rfl, .inl ⟨rfl, rfl⟩⟩
  | a :: es => by
    obtain ⟨f, h1, h2⟩ := mpFind_I k es
    show ∃ f, mpFind (i64 k) ((i64 a.1, i64 a.2) :: mpE es) = some f ∧ _
    have e : keyIs (i64 k) (i64 a.1) = some (k == a.1) := by unfold keyIs; simp
    unfold mpFind
    simp only [e, lkI]
    by_cases h : k = a.1
    · rw [beq_iff_eq.2 h, if_pos h]; exact ⟨_, rfl, .inr rfl⟩
    · rw [beq_eq_false_iff_ne.2 h, if_neg h]; exact ⟨f, h1, h2⟩
def MpI (h : H) (o : Nat) (es : PL) : Prop := h[o]? = some (.mp (mpE es))
theorem MpI.lt {h o es} (x : MpI h o es) : o < h.length := (List.getElem?_eq_some_iff.1 x).1
theorem MpI.ext {h h' o es} (x : MpI h o es) (e : Ext h h') : MpI h' o es := e.own x
theorem MpI.but {h h' o es} {p : Option Nat} (x : MpI h o es) (b : But p h h') (hn : p ≠ some o) : MpI h' o es := b.get x hn
theorem mput_I {h : H} {o : Nat} {es : PL} (x : MpI h o es) (k v : Int) {K : H → Prop} (hk : ∀ h', MpI h' o (putI k v es) → But (some o) h h' → h'.length = h.length → K h') : mput (.map (some o)) (i64 k) (i64 v) h K :=
  ⟨o, _, _, rfl, x, mpPut_I k v es, hk _ (by unfold MpI; have := x.lt; simp [this]) ⟨by simp, fun i hi hne => by rw [List.getElem?_set, if_neg (fun e => hne (by rw [e]))]⟩ (by simp)⟩
theorem mget_I {h : H} {o : Nat} {es : PL} (x : MpI h o es) (k : Int) {K : Int → Prop} (hk : K (lkI k es)) : mgetI .i64 (.map (some o)) (i64 k) h K := by
  obtain ⟨f, h1, h2⟩ := mpFind_I k es
  exact ⟨some o, mpE es, f, lkI k es, rfl, by simp only [mapAt]; rw [show h[o]? = some (.mp (mpE es)) from x], h1, h2, hk⟩
theorem newM_I {h : H} {K : AVal → H → Prop} (hk : ∀ h', MpI h' h.length [] → Ext h h' → h'.length = h.length + 1 → K (.map (some h.length)) h') : newM h K :=
  hk _ (by unfold MpI mpE; simp) (Ext.app _ _) (by simp)
/-! ### a map that holds counts -/
def Counts (es : PL) (f : Int → Nat) (B : Int → Prop) : Prop := (es.map (·.1)).Nodup ∧ (∀ k, lkI k es = (sat (f k) : Int)) ∧ ∀ k, B k → k ∈ es.map (·.1)
theorem Counts.nil : Counts [] (fun _ => 0) fun _ => False := ⟨List.nodup_nil, fun k => rfl, fun k h => h.elim⟩
theorem Counts.put {es f B} (c : Counts es f B) (k : Int) (v : Nat) : Counts (putI k (sat (f k + v) : Int) es) (fun j => f j + if k = j then v else 0) fun j => B j ∨ j = k := by
  refine ⟨by rw [keys_put]; exact addKey_nodup c.1 k, fun j => ?_, fun j hj => ?_⟩
  · rw [lk_put]
    show _ = ((sat (f j + if k = j then v else 0) : Nat) : Int)
    by_cases h : j = k
    · rw [if_pos h, if_pos h.symm, h]
    · rw [if_neg h, if_neg (fun e => h e.symm), c.2.1]; rfl
  · rw [keys_put, mem_addKey]
    rcases hj with hj | hj
    · exact .inl (c.2.2 j hj)
    · exact .inr hj
theorem Counts.sum {es f B} (c : Counts es f B) : ∀ e ∈ es, e.2 = (sat (f e.1) : Int) := fun e he => by rw [← lk_mem c.1 he, c.2.1]
theorem perm_sum {α : Type} (g : α → Nat) {l m : List α} (h : l.Perm m) : (l.map g).sum = (m.map g).sum := by
  induction h with
  | nil => rfl
  | cons x _ ih => simp only [List.map_cons, List.sum_cons, ih]
  | swap x y l => simp only [List.map_cons, List.sum_cons]; omega
  | trans _ _ ih1 ih2 => rw [ih1, ih2]
theorem range_get {α : Type} (g : α → Nat) (d : α) : ∀ l : List α, ((List.range l.length).map fun i => g (l.getD i d)) = l.map g := fun l => by
  apply List.ext_getElem
  · simp
  · intro i h1 h2
    simp only [List.getElem_map, List.getElem_range]
    rw [List.getD_eq_getElem?_getD, List.getElem?_eq_getElem (by simpa using h2)]; rfl
end Go.Proofs.Ytnamnpbkiibadaa.Cl

/- The reference's count of cylinders: the walk. No claim is stated here. -/
set_option linter.unusedVariables false
set_option linter.unusedSimpArgs false
namespace Go.Proofs.Ytnamnpbkiibadaa.Cl
open Go
noncomputable def PW (c : Int) (ts : List Tile) (W : Nat) : PL := (words ts W).map fun w => (cd c ts 1 w, cd c ts 3 w)
noncomputable def psumS (c : Int) (ts : List Tile) (W n i : Nat) (a : Int) : Nat := (((words ts W).take i).map fun w => if cd c ts 1 w = a then fw (PW c ts W) n (cd c ts 3 w) else 0).sum
section
variable {c : Int} {ts : List Tile} {W : Nat}
theorem psumS_zero {n : Nat} {a : Int} : psumS c ts W n 0 a = 0 := rfl
theorem psumS_succ {n : Nat} {a : Int} {i : Nat} (hi : i < (words ts W).length) : psumS c ts W n (i + 1) a = psumS c ts W n i a + if cd c ts 1 (words ts W)[i] = a then fw (PW c ts W) n (cd c ts 3 (words ts W)[i]) else 0 := by
  unfold psumS
  rw [List.take_succ_eq_append_getElem hi, List.map_append, List.sum_append]
  simp
theorem psumS_all {n : Nat} {a : Int} : psumS c ts W n (words ts W).length a = fw (PW c ts W) (n + 1) a := by
  unfold psumS
  rw [List.take_length, fw]
  unfold PW
  rw [List.map_map]
  rfl
end
section
variable {h0 : H} {c : Int} {s q : Sl} {ts : List Tile} {W : Nat} {a b : Int}
theorem l05PathsS_c (hN : ts.length ≤ 16) (S : Sides c ts) (hc : c ≤ 6) (hW : 1 ≤ W ∧ W ≤ 3) {tq bq : Sl} (rt : Rd h0 tq 1 (ic ((words ts W).map (cd c ts 1)))) (rb : Rd h0 bq 1 (ic ((words ts W).map (cd c ts 3)))) {N n : Nat} (hNS : (N : Int) = c ^ W) (hn : n ≤ 5) :
    callS SP i_spec_l05Paths [.agg (SetC c s), .sl tq, .sl bq, i64 N, i64 n, i64 (-1)] h0 fun u h' => Rd h' u 1 (ic (tab1 N fun a => (sat (fw (PW c ts W) n (a : Int)) : Int))) ∧ Ext h0 h' := by
  have hpw := pow_small S.1 hc hW.2
  rw [← hNS] at hpw
  have hwl : (words ts W).length ≤ 4096 := rounds_small hN hW.2 ([] : List Int)
  have htl := rt.ilen
  rw [List.length_map] at htl
  apply spec_l05Paths_call
  unfold spec_l05Paths_main
  refine newK_obj fun h1 o1 y1 l1 => ?_
  refine mkS_ow (by omega) (by unfold lim; omega) fun u h2 ou lu uo e2 => ?_
  rw [replicate_ic, Int.toNat_natCast, tab1_zero] at ou
  have y2 : Ext h1 h2 := by rw [e2]; exact Ext.app _ _
  refine spec_l05Paths_rule0 _ _ _ _ _ _ _ _ (fun i h => 0 ≤ i ∧ i ≤ N ∧ Ext h0 h ∧ Ow h u 1 (ic (tab1 N fun j => if j < i.toNat then 1 else 0))) (fun i _ => (N - i).toNat) ?_ _ ⟨by omega, by omega, y1.trans y2, by simpa using ou⟩
  rintro X i h ⟨i0, i1, e, o⟩ hX
  have hy1 := y1.len
  have frU : ∀ p, u.o = some p → h0.length ≤ p := fun p hp => by rw [uo] at hp; cases hp; exact hy1
  unfold spec_l05Paths_b0 spec_l05Paths_C0
  refine bif_dec (fun hi => ?_) (fun hi => ?_)
  · refine bif_dec (fun _ => ?_) (fun hx => by omega)
    have hol := o.rd.ilen
    rw [tab1_len] at hol
    refine o.stI i0 (by omega) _ fun h' o' b' _ => ?_
    rw [w64_of (by omega) (by omega)]
    refine hX _ _ ⟨by omega, by omega, e.but_ b' frU, ?_⟩ (by omega)
    rw [tab1_set] at o'
    refine (tab1_congr fun j hj => ?_) ▸ o'
    by_cases hji : j = i.toNat
    · subst hji
      rw [if_pos rfl, if_pos (by omega)]
    · rw [if_neg hji]
      by_cases hj2 : j < i.toNat
      · rw [if_pos hj2, if_pos (by omega)]
      · rw [if_neg hj2, if_neg (by omega)]
  · refine spec_l05Paths_rule2 _ _ _ _ _ (fun k v g => 0 ≤ k ∧ k ≤ n ∧ Ext h0 g ∧ Rd g v 1 (ic (tab1 N fun a => (sat (fw (PW c ts W) (n - k.toNat) (a : Int)) : Int)))) (fun k _ _ => k.toNat) ?_ _ _ ⟨by omega, by omega, e, ?_⟩
    rotate_left
    · refine (tab1_congr fun j hj => ?_) ▸ o.rd
      rw [Int.toNat_natCast, Nat.sub_self, if_pos (by omega)]; rfl
    clear hX o i0 i1 e hi
    rintro X k v g ⟨k0, k1, e, rv⟩ hX
    unfold spec_l05Paths_b2 spec_l05Paths_C2
    refine bif_dec (fun hk => ?_) (fun hk => ⟨_, rfl, ?_, e⟩)
    rotate_left
    · rw [show n - k.toNat = n by omega] at rv; exact rv
    obtain ⟨m, hm⟩ : ∃ m, m = n - k.toNat := ⟨_, rfl⟩
    rw [← hm] at rv
    refine mkS_ow (by omega) (by unfold lim; omega) fun z g2 oz lz zo e2 => ?_
    rw [replicate_ic, Int.toNat_natCast, tab1_zero] at oz
    have y2 : Ext g g2 := by rw [e2]; exact Ext.app _ _
    refine spec_l05Paths_rule4 _ _ X _ _ _ _ _ _ (fun i h => 0 ≤ i ∧ i ≤ (words ts W).length ∧ Ext g h ∧ Ow h z 1 (ic (tab1 N fun a => (sat (psumS c ts W m i.toNat (a : Int)) : Int)))) (fun i _ => ((words ts W).length - i).toNat) ?_ _ ⟨by omega, by omega, y2, by simpa [psumS_zero, sat] using oz⟩
    rintro Y i h ⟨i0, i1, e', o⟩ hY
    have frZ : ∀ p, z.o = some p → g.length ≤ p := fun p hp => by rw [zo] at hp; cases hp; exact Nat.le_refl _
    unfold spec_l05Paths_b4 spec_l05Paths_C4 spec_l05Paths_C3
    refine bif_dec (fun hi => ?_) (fun hi => ?_)
    · obtain ⟨w, rfl⟩ : ∃ w : Nat, i = w := ⟨i.toNat, by omega⟩
      rw [Int.toNat_natCast] at o
      have hw : w < (words ts W).length := by omega
      have hwd := words_wd (List.getElem_mem hw)
      have b1 := hwd.bound (k := 1) S (by omega)
      have b3 := hwd.bound (k := 3) S (by omega)
      rw [← hNS] at b1 b3
      have rt' := rt.ext (e.trans e')
      have rb' := rb.ext (e.trans e')
      refine rt'.ldG (by omega) (by rw [List.length_map]; omega) ?_
      rw [Int.toNat_natCast, mapG hw]
      refine rt'.ldG (by omega) (by rw [List.length_map]; omega) ?_
      rw [Int.toNat_natCast, mapG hw]
      refine o.rd.ldG b1.1 (by rw [tab1_len]; omega) ?_
      rw [tab1_at (by omega)]
      refine rb'.ldG (by omega) (by rw [List.length_map]; omega) ?_
      rw [Int.toNat_natCast, mapG hw]
      refine (rv.ext e').ldG b3.1 (by rw [tab1_len]; omega) ?_
      rw [tab1_at (by omega)]
      have hol := o.rd.ilen
      rw [tab1_len] at hol
      have c1 : ((cd c ts 1 (words ts W)[w]).toNat : Int) = cd c ts 1 (words ts W)[w] := by omega
      have c3 : ((cd c ts 3 (words ts W)[w]).toNat : Int) = cd c ts 3 (words ts W)[w] := by omega
      rw [c1, c3, sat_addI]
      refine o.stI b1.1 (by omega) _ fun h' o' b' _ => ?_
      rw [w64_of (n := (w : Int) + 1) (by omega) (by omega)]
      refine hY _ _ ⟨by omega, by omega, e'.but_ b' frZ, ?_⟩ (by omega)
      rw [tab1_set] at o'
      refine (tab1_congr fun j hj => ?_) ▸ o'
      rw [show ((w : Int) + 1).toNat = w + 1 by omega, psumS_succ hw]
      by_cases hj1 : j = (cd c ts 1 (words ts W)[w]).toNat
      · rw [if_pos hj1, if_pos (by omega), show ((j : Nat) : Int) = cd c ts 1 (words ts W)[w] by omega]
      · rw [if_neg hj1, if_neg (by omega)]; simp
    · rw [w64_of (by omega) (by omega)]
      refine hX _ _ _ ⟨by omega, by omega, e.trans e', ?_⟩ (by omega)
      rw [show i.toNat = (words ts W).length by omega] at o
      refine (tab1_congr fun j hj => ?_) ▸ o.rd
      rw [psumS_all]
      congr 3; omega
def Size5 (a b : Int) : Prop := (1 ≤ a ∧ a ≤ 5) ∧ 1 ≤ b ∧ b ≤ 3
theorem l05Code5_c (r : Rd h0 s 4 (tcs ts)) : callI SP .i64 i_spec_l05Code [.agg (SetC c s), i64 a, i64 b, i64 5] h0 fun n h' => n = codeOf (setOK c ts) (Size5 a b) ∧ Ext h0 h' := by
  apply spec_l05Code_call
  unfold spec_l05Code_main
  refine newK_obj fun h1 o1 x1 l1 => ?_
  refine o1.ldA rfl ?_
  refine (l01Is_c (r.ext x1)).to ?_
  rintro e h2 ⟨he, x2⟩
  have X := x1.trans x2
  refine bif_not (fun hq => ⟨_, rfl, (codeOf_no fun hs => ?_).symm, X⟩) (fun hq => ?_)
  · rw [he.2 hs] at hq; cases hq
  have hs := he.1 hq
  refine l01In_k ?_
  refine bif_not (fun h => ⟨_, rfl, (codeOf_range hs fun z => ?_).symm, X⟩) (fun h => ?_)
  · exact of_decide_eq_false h z.1
  refine l01In_k ?_
  refine bif_not (fun h' => ⟨_, rfl, (codeOf_range hs fun z => ?_).symm, X⟩) (fun h' => ⟨_, rfl, (codeOf_yes hs ⟨of_decide_eq_true h, of_decide_eq_true h'⟩).symm, X⟩)
  exact of_decide_eq_false h' z.2
noncomputable def cyl (c : Int) (ts : List Tile) (a b : Int) : Nat := tot (PW c ts b.toNat) (a.toNat - 1)
open Classical in
noncomputable def F_CountCylinders_0 (c : Int) (ts : List Tile) (a b : Int) : Int := sel (setOK c ts ∧ Size5 a b) (if cyl c ts a b ≤ 1000000000000000 then (cyl c ts a b : Int) else 0) 0
open Classical in
noncomputable def F_CountCylinders_1 (c : Int) (ts : List Tile) (a b : Int) : Int := sel (setOK c ts ∧ Size5 a b) (if cyl c ts a b ≤ 1000000000000000 then 0 else 3) (codeOf (setOK c ts) (Size5 a b))
theorem sat_big {n : Nat} : (1000000000000000 < (sat n : Int)) ↔ 1000000000000000 < n := by unfold sat M1; omega
theorem spec_CountCylinders_c (r : Rd h0 s 4 (tcs ts)) (sz : ts.length ≤ 1048576) (ba : i64ok a) (bb : i64ok b) :
    callV SP i_spec_CountCylinders [.agg (SetC c s), i64 a, i64 b] h0 fun v h' => v = .tuple [i64 (F_CountCylinders_0 c ts a b), i64 (F_CountCylinders_1 c ts a b)] ∧ Ext h0 h' := by
  apply spec_CountCylinders_call
  unfold spec_CountCylinders_main
  refine newK_obj fun h1 o1 x1 n1 => ?_
  refine o1.ldA rfl ?_
  refine (l05Code5_c (r.ext x1)).to ?_
  rintro n h2 ⟨rfl, x2⟩
  have X := x1.trans x2
  refine bif_ne (fun hq => ⟨?_, X⟩) (fun hq => ?_)
  · rw [F_CountCylinders_0, F_CountCylinders_1, sel_no (codeOf_cond hq), sel_no (codeOf_cond hq)]
  have hcz := codeOf_zero hq
  obtain ⟨hs, hz⟩ := hcz
  obtain ⟨H_, rfl⟩ : ∃ H_ : Nat, a = H_ := ⟨a.toNat, by have := hz.1.1; omega⟩
  obtain ⟨W, rfl⟩ : ∃ W : Nat, b = W := ⟨b.toNat, by have := hz.2.1; omega⟩
  have hW : 1 ≤ W ∧ W ≤ 3 := by have := hz.2; omega
  have hH : 1 ≤ H_ ∧ H_ ≤ 5 := by have := hz.1; omega
  have S := hs.sides
  have hN : ts.length ≤ 16 := hs.2.1
  have hc6 : c ≤ 6 := hs.1.2
  refine (o1.ext x2).ldA rfl ?_
  refine (l05Words_c (r.ext X) hN S hc6 hW).to ?_
  rintro _ h3 ⟨wa, wb, wd, rfl, nw, rb, rd, x3⟩
  refine ⟨_, rfl, ?_⟩
  refine ⟨_, rfl, ?_⟩
  refine ⟨_, rfl, ?_⟩
  refine ⟨_, rfl, ?_⟩
  refine ⟨_, rfl, ?_⟩
  refine ⟨_, rfl, ?_⟩
  have o3 := o1.ext (x2.trans x3)
  refine o3.ldA rfl ?_
  refine isPt_in (o3.ldI rfl rfl ?_)
  refine (l03Power_c S.1 hc6 hW.2).to ?_
  rintro _ h4 ⟨rfl, x4⟩
  refine ⟨?_, ?_⟩
  · simp only [range, cells]; rw [show h4[h0.length]? = _ from o3.ext x4, show h3[h0.length]? = _ from o3]
  have hpw := pow_small S.1 hc6 hW.2
  obtain ⟨N, hNS⟩ : ∃ N : Nat, (N : Int) = c ^ W := ⟨(c ^ W).toNat, by omega⟩
  rw [← hNS]
  refine (l05PathsS_c hN S hc6 hW (rb.ext x4) (rd.ext x4) hNS hH.2).to ?_
  rintro u h5 ⟨ru, x5⟩
  have XX := (X.trans x3).trans (x4.trans x5)
  have hul := ru.ilen
  rw [tab1_len] at hul
  refine spec_CountCylinders_rule0 _ _ _ (fun z i h => 0 ≤ i ∧ i ≤ N ∧ Ext h5 h ∧ z = (sat ((List.range i.toNat).map fun (y : Nat) => fw (PW c ts W) H_ (y : Int)).sum : Int)) (fun _ i _ => (N - i).toNat) ?_ _ _ ⟨by omega, by omega, Ext.refl _, by simp [sat]⟩
  rintro Y z i h ⟨i0, i1, y, rfl⟩ hY
  unfold spec_CountCylinders_b0 spec_CountCylinders_C0
  refine bif_dec (fun hi => ?_) (fun hi => ?_)
  · refine (ru.ext y).ldG i0 (by rw [tab1_len]; omega) ?_
    rw [tab1_at (by omega), sat_addI, w64_of (by omega) (by omega)]
    refine hY _ _ _ ⟨by omega, by omega, y, ?_⟩ (by omega)
    rw [show (i + 1).toNat = i.toNat + 1 by omega, List.range_succ, List.map_append, List.sum_append]
    simp
  · have hsum : ((List.range i.toNat).map fun (y : Nat) => fw (PW c ts W) H_ (y : Int)).sum = cyl c ts H_ W := by
      unfold cyl
      rw [show i.toNat = N by omega, Int.toNat_natCast, Int.toNat_natCast]
      rw [← fw_tot (R := PW c ts W) (N := N) (n := H_ - 1) ?_, show H_ - 1 + 1 = H_ by omega]
      intro e he
      unfold PW at he
      obtain ⟨w, hw, rfl⟩ := List.mem_map.1 he
      have := (words_wd hw).bound (k := 1) S (by omega)
      rw [← hNS] at this
      exact this
    rw [hsum]
    refine bif_dec (fun hb => ⟨?_, XX.trans y⟩) (fun hb => ⟨?_, XX.trans y⟩)
    · rw [F_CountCylinders_0, F_CountCylinders_1, sel_yes ⟨hs, hz⟩, sel_yes ⟨hs, hz⟩, if_neg, if_neg]
      · have := sat_big.1 hb; omega
      · have := sat_big.1 hb; omega
    · have hle : cyl c ts H_ W ≤ 1000000000000000 := by
        rcases Nat.lt_or_ge 1000000000000000 (cyl c ts H_ W) with h | h
        · exact absurd (sat_big.2 h) hb
        · exact h
      rw [F_CountCylinders_0, F_CountCylinders_1, sel_yes ⟨hs, hz⟩, sel_yes ⟨hs, hz⟩, if_pos hle, if_pos hle, sat_self _ hle]
end
end Go.Proofs.Ytnamnpbkiibadaa.Cl

/- The program's rounds, told by pairs of numbers: the walk. No claim is stated here. -/
set_option linter.unusedVariables false
set_option linter.unusedSimpArgs false
namespace Go.Proofs.Ytnamnpbkiibadaa.Cl
open Go
def pc (e : Int × Int) : List AVal := [i64 e.1, i64 e.2]
def pcs (R : PL) : List AVal := (R.map pc).flatten
theorem pcs_len : ∀ R : PL, (pcs R).length = R.length * 2
  | [] => rfl
  | t :: ts => by
    have := pcs_len ts
    unfold pcs at *
    simp only [List.map_cons, List.flatten_cons, List.length_append, List.length_cons]
    simp only [pc, List.length_cons, List.length_nil]
    omega
theorem pcs_app (a b : PL) : pcs (a ++ b) = pcs a ++ pcs b := by simp [pcs]
theorem pcs_cons (a : Int × Int) (b : PL) : pcs (a :: b) = pc a ++ pcs b := by simp [pcs]
theorem pcs_at : ∀ (ts : PL) (i : Nat) (t : Int × Int), ts[i]? = some t → ((pcs ts).drop (i * 2)).take 2 = pc t
  | [], i, t, e => by simp at e
  | a :: ts, 0, t, e => by
    simp at e; subst e
    rw [pcs_cons]; simp [List.take_append, pc]
  | a :: ts, i + 1, t, e => by
    rw [pcs_cons, show (i + 1) * 2 = (pc a).length + i * 2 by simp only [pc, List.length_cons, List.length_nil]; omega, ← List.drop_drop, List.drop_left]
    exact pcs_at ts i t (by simpa using e)
theorem Rd.plen {h : H} {s : Sl} {R : PL} (r : Rd h s 2 (pcs R)) : s.len = R.length := by have := r.len; rw [pcs_len] at this; omega
theorem Rd.ldP {h : H} {s : Sl} {R : PL} (r : Rd h s 2 (pcs R)) {i : Nat} (hi : i < R.length) {K : List AVal → Prop} (hk : K (pc R[i])) : ixS s 2 (i : Int) fun p => Cl.ldA p 2 h K := by
  have hlen := r.plen
  refine r.ldA (by omega) (by omega) ?_
  rw [pcs_at R _ _ (List.getElem?_eq_getElem (by simpa using hi))]
  exact hk
/-! ### plain -/
def extR (c : Int) (ts : List Tile) (first : Int) : Nat → Int → Int → Int → PL
  | 0, last, ab, be => if first = last then [(ab, be)] else []
  | m + 1, last, ab, be => (List.range ts.length).flatMap fun (k : Nat) => if E_ ts (k : Int) 0 = last then extR c ts first m (E_ ts (k : Int) 2) (ab * c + E_ ts (k : Int) 1) (be * c + E_ ts (k : Int) 3) else []
theorem cd_app (c : Int) (ts : List Tile) (k : Nat) (w : List Int) (x : Int) : cd c ts k (w ++ [x]) = cd c ts k w * c + E_ ts x k := by
  unfold cd
  rw [List.map_append, List.map_cons, List.map_nil, dec_app]
theorem sel_if {α : Type} (A : Prop) [Decidable A] (x d : α) : sel A x d = if A then x else d := by
  by_cases h : A
  · rw [sel_yes h, if_pos h]
  · rw [sel_no h, if_neg h]
theorem rounds_ext {c : Int} {ts : List Tile} : ∀ (m : Nat) (w : List Int), 0 < w.length → (rounds ts m w).map (fun w => (cd c ts 1 w, cd c ts 3 w)) = extR c ts (E_ ts (gt w 0) 0) m (E_ ts (gt w (w.length - 1)) 2) (cd c ts 1 w) (cd c ts 3 w)
  | 0, w, hw => by
    unfold rounds extR closeW
    by_cases h : E_ ts (gt w (w.length - 1)) 2 = E_ ts (gt w 0) 0
    · rw [sel_yes h, if_pos h.symm]; rfl
    · rw [sel_no h, if_neg fun e => h e.symm]; rfl
  | m + 1, w, hw => by
    unfold rounds extR
    rw [List.map_flatMap]
    refine flatMap_congr' fun k hk => ?_
    have h1 : hC ts w (k : Int) ↔ E_ ts (k : Int) 0 = E_ ts (gt w (w.length - 1)) 2 := ⟨fun h => (h hw).symm, fun h _ => h.symm⟩
    by_cases h : hC ts w (k : Int)
    · rw [sel_yes h, if_pos (h1.1 h), rounds_ext m (w ++ [(k : Int)]) (by simp), gt_left hw, cd_app, cd_app]
      have : (w ++ [(k : Int)]).length - 1 = w.length := by simp
      rw [this, gt_last]
    · rw [sel_no h, if_neg fun e => h (h1.2 e)]; rfl
def RI (c : Int) (ts : List Tile) (W : Nat) : PL := (List.range c.toNat).flatMap fun (a : Nat) => extR c ts (a : Int) W (a : Int) 0 0
theorem sum_flatMap {α β : Type} (f : α → List β) (g : β → Nat) : ∀ l : List α, ((l.flatMap f).map g).sum = (l.map fun a => ((f a).map g).sum).sum
  | [] => rfl
  | a :: l => by
    rw [List.flatMap_cons, List.map_append, List.sum_append, sum_flatMap f g l]; rfl
theorem same_RI {c : Int} {ts : List Tile} {W : Nat} (S : Sides c ts) (hW : 1 ≤ W) : Same (RI c ts W) (PW c ts W) := by
  intro g
  obtain ⟨m, rfl⟩ : ∃ m, W = m + 1 := ⟨W - 1, by omega⟩
  have e1 : PW c ts (m + 1) = (List.range ts.length).flatMap fun (k : Nat) => extR c ts (E_ ts (k : Int) 0) m (E_ ts (k : Int) 2) (0 * c + E_ ts (k : Int) 1) (0 * c + E_ ts (k : Int) 3) := by
    unfold PW words
    rw [rounds, List.map_flatMap]
    refine flatMap_congr' fun k hk => ?_
    rw [sel_yes (show hC ts [] (k : Int) from fun h => absurd h (by simp)), rounds_ext m _ (by simp)]
    have h1 := cd_app c ts 1 [] (k : Int)
    have h3 := cd_app c ts 3 [] (k : Int)
    rw [h1, h3]
    rfl
  rw [e1, sum_flatMap]
  unfold RI
  rw [sum_flatMap]
  have e2 : ∀ a : Nat, ((extR c ts (a : Int) (m + 1) (a : Int) 0 0).map g).sum = ((List.range ts.length).map fun (k : Nat) => if E_ ts (k : Int) 0 = (a : Int) then ((extR c ts (a : Int) m (E_ ts (k : Int) 2) (0 * c + E_ ts (k : Int) 1) (0 * c + E_ ts (k : Int) 3)).map g).sum else 0).sum := fun a => by
    rw [extR, sum_flatMap]
    refine sum_cong fun k _ => ?_
    by_cases h : E_ ts (k : Int) 0 = (a : Int)
    · rw [if_pos h, if_pos h]
    · rw [if_neg h, if_neg h]; rfl
  rw [sum_cong fun a _ => e2 a]
  refine sum_swap (S := c.toNat) (fun k : Nat => E_ ts (k : Int) 0) (fun k a => ((extR c ts a m (E_ ts (k : Int) 2) (0 * c + E_ ts (k : Int) 1) (0 * c + E_ ts (k : Int) 3)).map g).sum) (List.range ts.length) fun k hk => ?_
  have := S.2 (k : Int) 0 (by omega) (by omega) (by have := List.mem_range.1 hk; omega)
  have := S.1
  omega
theorem RI_len {c : Int} {ts : List Tile} {W : Nat} (S : Sides c ts) (hN : ts.length ≤ 16) (hW : 1 ≤ W ∧ W ≤ 3) : (RI c ts W).length ≤ 4096 := by
  have := same_RI S hW.1 fun _ => 1
  have e : ∀ R : PL, (R.map fun _ => 1).sum = R.length := fun R => by induction R with | nil => rfl | cons a R ih => simp only [List.map_cons, List.sum_cons, ih, List.length_cons]; omega
  rw [e, e] at this
  rw [this]
  unfold PW
  rw [List.length_map]
  exact rounds_small hN hW.2 []
theorem flatMap_pre {α : Type} (g : Nat → List α) {k n : Nat} (h : k < n) : ((List.range k).flatMap g).length + (g k).length ≤ ((List.range n).flatMap g).length := by
  obtain ⟨d, rfl⟩ : ∃ d, n = k + 1 + d := ⟨n - (k + 1), by omega⟩
  rw [List.range_add, List.flatMap_append, List.length_append, List.range_succ, List.flatMap_append, List.length_append]
  simp
/-! ### the walk -/
structure REnv (h : H) (ox oc os of_ : Nat) (c : Int) (s : Sl) (L : PL) : Prop where
  vs : Obj h os (SetC c s)
  vf : Var h of_ (.func i_impl_Set_rounds_1 [.ptr (pt oc), .ptr ⟨some os, 2, 0⟩, .ptr (pt of_)])
  out : ∃ x, x.o = some ox ∧ Var h oc (.sl x) ∧ Ow h x 2 (pcs L)
theorem REnv.ext {h h' : H} {ox oc os of_ : Nat} {c : Int} {s : Sl} {L : PL} (e : REnv h ox oc os of_ c s L) (x : Ext h h') : REnv h' ox oc os of_ c s L := by
  obtain ⟨y, a, b, d⟩ := e.out
  exact ⟨e.vs.ext x, e.vf.ext x, y, a, b.ext x, d.ext x⟩
section
variable {hb : H} {c : Int} {s : Sl} {ts : List Tile} {ox oc os of_ : Nat} {first : Int}
theorem roundsRec (r : Rd hb s 4 (tcs ts)) (S : Sides c ts) (hc : c ≤ 6) (hN : ts.length ≤ 16) (hn : hb.length ≤ oc ∧ hb.length ≤ ox) (hd : ox ≠ oc ∧ ox ≠ os ∧ ox ≠ of_ ∧ oc ≠ os ∧ oc ≠ of_) :
    ∀ (m : Nat) (last ab be : Int) (L : PL) (h : H), m ≤ 3 → (0 ≤ ab ∧ ab < 6 ^ (3 - m)) → (0 ≤ be ∧ be < 6 ^ (3 - m)) → L.length + (extR c ts first m last ab be).length ≤ 1000000 → REnv h ox oc os of_ c s L → Ext hb h →
    callV SP i_impl_Set_rounds_1 [i64 first, i64 last, i64 ab, i64 be, i64 m, .ptr (pt oc), .ptr ⟨some os, 2, 0⟩, .ptr (pt of_)] h fun _ h' => REnv h' ox oc os of_ c s (L ++ extR c ts first m last ab be) ∧ Ext hb h'
  | 0, last, ab, be, L, h, hm, ha, hb', hL, e, x => by
    apply impl_Set_rounds_1_call
    unfold impl_Set_rounds_1_main
    refine bif_eq (fun _ => ?_) (fun hne => absurd rfl hne)
    unfold extR at hL ⊢
    refine bif_eq (fun hf => ?_) (fun hf => ?_)
    · rw [if_pos hf] at hL ⊢
      obtain ⟨y, yo, vy, oy⟩ := e.out
      refine vy.ldS ⟨rfl, ?_⟩
      refine newS_ow (by rfl) fun t h1 ot lt to e1 => ?_
      have x1 : Ext h h1 := by rw [e1]; exact Ext.app _ _
      have hyl := oy.rd.plen
      refine app_ow (by omega) (oy.ext x1) ot.rd (by rw [lt, hyl]; simp at hL; unfold lim; omega) fun y' h2 oy' ly' b2 k1 k2 => ?_
      have hxl := oy.lt yo
      have hcl := vy.lt
      have v2 := (vy.ext x1).but b2 (by rw [yo]; intro e; exact hd.1 (Option.some.inj e))
      refine v2.st _ fun h3 v3 b3 l3 => ?_
      have yo' := k1 ox yo
      have c2 : Chg (fun i => i = ox ∨ i = oc) h h3 := ((x1.chg _).trans (b2.chg fun i e => .inl (by rw [yo] at e; exact (Option.some.inj e).symm))).trans (b3.chg fun i e => .inr (Option.some.inj e).symm)
      refine ⟨⟨e.vs.chg c2 (by rintro (q | q); exact hd.2.1 q.symm; exact hd.2.2.2.1 q.symm), e.vf.chg c2 (by rintro (q | q); exact hd.2.2.1 q.symm; exact hd.2.2.2.2 q.symm), y', yo', v3, ?_⟩, x.chg_ c2 (by rintro i (rfl | rfl); exact hn.2; exact hn.1)⟩
      rw [pcs_app]
      exact oy'.but b3 (.inl (by rw [yo']; intro e; exact hd.1 (Option.some.inj e).symm))
    · rw [if_neg hf, List.append_nil]
      exact ⟨e, x⟩
  | m + 1, last, ab, be, L, h, hm, ha, hb', hL, e, x => by
    have hrl := r.tlen
    apply impl_Set_rounds_1_call
    unfold impl_Set_rounds_1_main
    refine bif_eq (fun hne => absurd hne (by omega)) (fun _ => ?_)
    refine isPt_in (e.vs.ldS rfl rfl ?_)
    generalize hg : (fun k : Nat => if E_ ts (k : Int) 0 = last then extR c ts first m (E_ ts (k : Int) 2) (ab * c + E_ ts (k : Int) 1) (be * c + E_ ts (k : Int) 3) else []) = g
    have hflat : extR c ts first (m + 1) last ab be = (List.range ts.length).flatMap g := by rw [← hg]; rfl
    rw [hflat] at hL ⊢
    refine impl_Set_rounds_1_rule0 _ _ _ _ _ _ _ _ _ _ _ (fun k h => ∃ z : Nat, k = z ∧ z ≤ ts.length ∧ REnv h ox oc os of_ c s (L ++ (List.range z).flatMap g) ∧ Ext hb h) (fun k _ => (ts.length - k).toNat) ?_ _ ⟨0, rfl, by omega, by simpa using e, x⟩
    clear e x
    rintro X _ h ⟨z, rfl, hz, e, x⟩ hX
    unfold impl_Set_rounds_1_b0
    refine bif_dec (fun hi => ?_) (fun hi => ?_)
    rotate_left
    · rw [show z = ts.length by omega] at e
      exact ⟨e, x⟩
    have hz' : z < ts.length := by omega
    have hpre := flatMap_pre g hz'
    have rh := r.ext x
    refine rh.tileG (by omega) (by omega) ?_
    refine newO_obj fun h3 o3 x3 _ => ?_
    refine o3.stA fun h4 o4 b4 _ => ?_
    have x4 : Ext h h4 := x3.but_ b4 (some_le (Nat.le_refl _))
    have e4 := e.ext x4
    refine o4.sdI (by omega) (by omega) ?_
    have hst : ((z : Int) + 1) = ((z + 1 : Nat) : Int) := by push_cast; rfl
    have hSk := fun k hk => S.2 (z : Int) k hk (by omega) (by omega)
    refine bif_eq (fun hw => ?_) (fun hw => ?_)
    · have hgz : g z = extR c ts first m (E_ ts (z : Int) 2) (ab * c + E_ ts (z : Int) 1) (be * c + E_ ts (z : Int) 3) := by rw [← hg]; exact if_pos hw
      refine e4.vf.ldV ?_
      refine o4.sdI (by omega) (by omega) ?_
      refine isPt_in (e4.vs.ldI rfl rfl ?_)
      refine o4.sdI (by omega) (by omega) ?_
      refine isPt_in (e4.vs.ldI rfl rfl ?_)
      refine o4.sdI (by omega) (by omega) ?_
      have s1 := hSk 1 (by omega)
      have s3 := hSk 3 (by omega)
      have p6 : (6 : Int) ^ (3 - (m + 1)) * 6 = 6 ^ (3 - m) := by rw [show 3 - m = 3 - (m + 1) + 1 by omega, Int.pow_succ]
      have p7 : (6 : Int) ^ (3 - m) ≤ 6 ^ 3 := by
        match m, hm with
        | 0, _ => decide
        | 1, _ => decide
        | 2, _ => decide
      have p8 : (6 : Int) ^ 3 = 216 := by decide
      have m1 : ab * c ≤ ab * 6 := Int.mul_le_mul_of_nonneg_left hc ha.1
      have m2 : 0 ≤ ab * c := Int.mul_nonneg ha.1 (by have := S.1; omega)
      have m3 : be * c ≤ be * 6 := Int.mul_le_mul_of_nonneg_left hc hb'.1
      have m4 : 0 ≤ be * c := Int.mul_nonneg hb'.1 (by have := S.1; omega)
      change 0 ≤ sd (tat ts (z : Int)) 1 ∧ sd (tat ts (z : Int)) 1 < c at s1
      change 0 ≤ sd (tat ts (z : Int)) 3 ∧ sd (tat ts (z : Int)) 3 < c at s3
      rw [w64_of (n := ab * c) (by omega) (by omega), w64_of (n := be * c) (by omega) (by omega)]
      show viaF _ [_, _, .int .i64 (w64 (ab * c + sd (tat ts (z : Int)) 1)), .int .i64 (w64 (be * c + sd (tat ts (z : Int)) 3)), _] _
      rw [w64_of (n := ab * c + sd (tat ts (z : Int)) 1) (by omega) (by omega), w64_of (n := be * c + sd (tat ts (z : Int)) 3) (by omega) (by omega), w64_of (n := ((m + 1 : Nat) : Int) - 1) (by omega) (by omega), show ((m + 1 : Nat) : Int) - 1 = (m : Int) by omega]
      refine via_func ?_
      refine (roundsRec r S hc hN hn hd m (E_ ts (z : Int) 2) (ab * c + E_ ts (z : Int) 1) (be * c + E_ ts (z : Int) 3) (L ++ (List.range z).flatMap g) h4 (by omega) ⟨?_, ?_⟩ ⟨?_, ?_⟩ ?_ e4 (x.trans x4)).to ?_
      · change 0 ≤ ab * c + sd (tat ts (z : Int)) 1; omega
      · change ab * c + sd (tat ts (z : Int)) 1 < _; omega
      · change 0 ≤ be * c + sd (tat ts (z : Int)) 3; omega
      · change be * c + sd (tat ts (z : Int)) 3 < _; omega
      · rw [← hgz, List.length_append]; omega
      rintro _ h5 ⟨e5, x5⟩
      rw [← hgz, List.append_assoc] at e5
      rw [w64_of (n := (z : Int) + 1) (by omega) (by omega)]
      refine hX _ _ ⟨z + 1, hst, hz', ?_, x5⟩ (by omega)
      rw [List.range_succ, List.flatMap_append]
      simpa using e5
    · have hgz : g z = [] := by rw [← hg]; exact if_neg hw
      rw [w64_of (n := (z : Int) + 1) (by omega) (by omega)]
      refine hX _ _ ⟨z + 1, hst, hz', ?_, x.trans x4⟩ (by omega)
      rw [List.range_succ, List.flatMap_append]
      simpa [hgz] using e4
theorem rounds_c {h0 : H} {W : Nat} (r : Rd h0 s 4 (tcs ts)) (S : Sides c ts) (hc : c ≤ 6) (hN : ts.length ≤ 16) (hW : 1 ≤ W ∧ W ≤ 3) :
    callS SP i_impl_Set_rounds [.agg (SetC c s), i64 W] h0 fun u h' => Rd h' u 2 (pcs (RI c ts W)) ∧ Ext h0 h' := by
  have hlen := RI_len S hN hW
  apply impl_Set_rounds_call
  unfold impl_Set_rounds_main
  refine newK_obj fun h1 o1 x1 l1 => ?_
  refine newS_ow (by rfl) fun y h2 oy ly yo e2 => ?_
  have x2 : Ext h1 h2 := by rw [e2]; exact Ext.app _ _
  have l2 : h2.length = h1.length + 1 := by rw [e2]; simp
  refine newO_var fun h3 v3 x3 l3 => ?_
  refine v3.st _ fun h4 v4 b4 l4 => ?_
  refine newO_var fun h5 v5 x5 l5 => ?_
  refine v5.st _ fun h6 v6 b6 l6 => ?_
  have C : Chg (fun i => h2.length ≤ i) h2 h6 := (((x3.chg _).trans (b4.chg fun i e => by cases e; exact Nat.le_refl _)).trans (x5.chg _)).trans (b6.chg fun i e => by cases e; omega)
  have X2 := x1.trans x2
  have X : Ext h0 h6 := X2.chg_ C fun i hi => by have := X2.len; omega
  have os : Obj h6 h0.length (SetC c s) := (o1.ext x2).chg C (by omega)
  have oy6 : Ow h6 y 2 (pcs []) := (oy.chg C fun i e => by rw [yo] at e; cases e; omega)
  have vc : Var h6 h2.length (.sl y) := (v4.ext x5).but b6 (fun e => by have := Option.some.inj e; omega)
  have e6 : REnv h6 h1.length h2.length h0.length h4.length c s [] := ⟨os, v6, y, yo, vc, oy6⟩
  refine isPt_in (os.ldI rfl rfl ?_)
  have hc1 := S.1
  refine impl_Set_rounds_rule0 _ _ _ _ _ _ (fun k h => ∃ z : Nat, k = z ∧ z ≤ c.toNat ∧ REnv h h1.length h2.length h0.length h4.length c s ((List.range z).flatMap fun (a : Nat) => extR c ts (a : Int) W (a : Int) 0 0) ∧ Ext h0 h) (fun k _ => (c - k).toNat) ?_ _ ⟨0, rfl, by omega, e6, X⟩
  rintro X _ h ⟨z, rfl, hz, e, x⟩ hX
  unfold impl_Set_rounds_b0 impl_Set_rounds_C0
  refine bif_dec (fun hi => ?_) (fun hi => ?_)
  · have hz' : z < c.toNat := by omega
    have hpre := flatMap_pre (fun (a : Nat) => extR c ts (a : Int) W (a : Int) 0 0) hz'
    have hlen' : ((List.range c.toNat).flatMap fun (a : Nat) => extR c ts (a : Int) W (a : Int) 0 0).length ≤ 4096 := hlen
    have p1 : (1 : Int) ≤ 6 ^ (3 - W) := by
      rcases hW with ⟨w1, w3⟩
      match W, w1, w3 with
      | 1, _, _ => decide
      | 2, _, _ => decide
      | 3, _, _ => decide
    refine e.vf.ldV (via_func ?_)
    refine (roundsRec (hb := h0) (first := (z : Int)) r S hc hN ⟨by omega, by omega⟩ ⟨by omega, by omega, by omega, by omega, by omega⟩ W (z : Int) 0 0 _ h hW.2 ⟨by omega, by omega⟩ ⟨by omega, by omega⟩ (by omega) e x).to ?_
    rintro _ h7 ⟨e7, x7⟩
    rw [w64_of (n := (z : Int) + 1) (by omega) (by omega)]
    refine hX _ _ ⟨z + 1, by push_cast; rfl, hz', ?_, x7⟩ (by omega)
    rw [List.range_succ, List.flatMap_append]
    simpa using e7
  · obtain ⟨u, uo, vu, ou⟩ := e.out
    rw [show z = c.toNat by omega] at ou
    exact vu.ldS ⟨_, rfl, ou.rd, x⟩
end
end Go.Proofs.Ytnamnpbkiibadaa.Cl

/- The program's count of cylinders: the range over the map. No claim is stated here. -/
set_option linter.unusedVariables false
set_option linter.unusedSimpArgs false
namespace Go.Proofs.Ytnamnpbkiibadaa.Cl
open Go
theorem rngGo_all {S : SatT} {T : Tab} {p : RngP} {es : List (AVal × AVal)} {F : Frame → Prop} {h : H} (G : List Nat → Frame → Prop)
    (hend : ∀ seen fr, G seen fr → seen.Nodup → (∀ i ∈ seen, i < es.length) → (∀ i, i < es.length → i ∈ seen) → F (clr [p.d2, p.d3] (mask p.mm fr)))
    (hstep : ∀ seen fr i k v, G seen fr → i ∉ seen → es[i]? = some (k, v) → runOps S T p.ops.toList p.ops.toList (fun fr' h' => h' = h ∧ G (i :: seen) fr') ((clr [p.d2, p.d3, p.d4, p.d5] (mask p.mm fr)).set p.d6 v) h) :
    ∀ (N : Nat) (seen : List Nat) (fr : Frame), seen.Nodup → (∀ i ∈ seen, i < es.length) → N + seen.length = es.length + 1 → G seen fr → rngGo S T p es F h N seen fr
  | 0, seen, fr, hn, hl, hN, g => by
    have : seen.length ≤ (List.range es.length).length := hn.length_le_of_subset fun i hi => List.mem_range.2 (hl i hi)
    rw [List.length_range] at this
    omega
  | N + 1, seen, fr, hn, hl, hN, g => by
    refine ⟨fun hall => hend seen fr g hn hl hall, fun i k v he hi => ?_⟩
    have hil : i < es.length := by
      rcases Nat.lt_or_ge i es.length with h | h
      · exact h
      · rw [List.getElem?_eq_none h] at he; cases he
    refine Lin.mono (runOps_lin _ _ _ _) (K := fun q => q.2 = h ∧ G (i :: seen) q.1) (K' := fun q => q.2 = h ∧ rngGo S T p es F h N (i :: seen) q.1) ?_ (hstep seen fr i k v g hi he)
    rintro ⟨fr', h'⟩ ⟨e, g'⟩
    refine ⟨e, rngGo_all G hend hstep N (i :: seen) fr' (List.nodup_cons.2 ⟨hi, hn⟩) (fun j hj => ?_) (by simp only [List.length_cons]; omega) g'⟩
    rcases List.mem_cons.1 hj with rfl | hj
    · exact hil
    · exact hl j hj
noncomputable def opsAt : Code → Array Oper | .region _ o _ => o | _ => #[]
def fl (x : AVal) : Frame := List.replicate 16 .undef ++ x :: List.replicate 65 .undef
def fl2 (a b : Int) : Frame := List.replicate 16 .undef ++ i64 (mnI 1000000000000001 (w64 (a + b))) :: .undef :: i64 b :: (List.replicate 55 .undef ++ [i64 a, i64 b, i64 (w64 (a + b)), i64 (mnI 1000000000000001 (w64 (a + b))), .undef, .undef, .undef, .undef])
noncomputable def rpC : RngP := ⟨.tmp 10, 68, 72, 69, 70, 71, 72, 73, 18, 6, opsAt (sub [1, 1, 1, 1, 1, 1, 0, 1, 0, 0, 1, 1, 0, 1] (bodyOf Try.f15)), [16]⟩
theorem rpC_ok : RngOK tab rpC (sub [1, 1, 1, 1, 1, 1, 0, 0] (bodyOf Try.f15)) (sub [1, 1, 1, 1, 1, 1, 0, 1] (bodyOf Try.f15)) := by
  refine ⟨by (refine cast (α := True) ?_ trivial; kernel_rfl), by decide, 21, 22, 23, 24, 7, opsAt (sub [1, 1, 1, 1, 1, 1, 0, 0] (bodyOf Try.f15)), opsAt (sub [1, 1, 1, 1, 1, 1, 0, 1, 0, 0, 0] (bodyOf Try.f15)), opsAt (sub [1, 1, 1, 1, 1, 1, 0, 1, 0, 0, 1, 1, 0, 0] (bodyOf Try.f15)), by kernel_rfl, by kernel_rfl, by kernel_rfl, by kernel_rfl, by kernel_rfl, ?_⟩
  have ed : rpC.ops.toList.map (·.dst) = [some 74, some 75, some 76, some 77, some 16] := by kernel_rfl
  intro o ho d hd e
  have : o.dst ∈ rpC.ops.toList.map (·.dst) := List.mem_map_of_mem ho
  rw [ed, e] at this
  simp only [rpC, List.mem_cons, List.not_mem_nil, or_false, Option.some.injEq] at this hd
  omega
theorem rpC_run (a b : Int) (K : Frame → H → Prop) (h : H) : runOps SP tab rpC.ops.toList rpC.ops.toList K ((clr [rpC.d2, rpC.d3, rpC.d4, rpC.d5] (fl (i64 a))).set rpC.d6 (i64 b)) h = K (fl2 a b) h := by kernel_rfl
theorem fl2_mask (a b : Int) : mask [16] (fl2 a b) = fl (i64 (mnI 1000000000000001 (w64 (a + b)))) := by kernel_rfl
theorem fl_mask (a : Int) : mask [16] (clr [rpC.d2, rpC.d3] (fl (i64 a))) = fl (i64 a) := by kernel_rfl
section
variable {h : H} {o : Nat} {es : PL} {f : Int → Nat} {B : Int → Prop}
theorem cyl_range (mo : MpI h o es) (cn : Counts es f B) {fr : Frame} {K : Int → H → Prop} (hf : ev fr (.tmp 10) = .map (some o)) (h0 : mask [16] (clr [68, 69] fr) = fl (i64 0)) (h1 : ∀ n, mask [16] (fr.set 16 (i64 n)) = fl (i64 n)) (hl : fr.length = 82)
    (hk : K (sat ((es.map fun e => f e.1).sum) : Int) h) : rangeK SP tab [16, 16] (sub [1, 1, 1, 1, 1, 1, 0, 0] (bodyOf Try.f15)) (sub [1, 1, 1, 1, 1, 1, 0, 1] (bodyOf Try.f15)) K fr h := by
  refine ⟨rpC, o, mpE es, _, rpC_ok, ?_, hf, mo, ⟨(mpE es).length + 1, ?_⟩, hk⟩
  · intro d hd
    simp only [rpC, List.mem_cons, List.not_mem_nil, or_false] at hd
    omega
  have hel : (mpE es).length = es.length := List.length_map _
  let gv : Nat → Nat := fun i => f (es.getD i (0, 0)).1
  refine rngGo_all (fun seen fr => mask [16] fr = fl (i64 (sat ((seen.map gv).sum) : Int))) ?_ ?_ _ [] _ List.nodup_nil (by simp) (by simp) ?_
  · intro seen fr2 hg hn hlt hall
    show mask [16] (clr _ (mask [16] fr2)) = mask [16] (fr.set 16 (i64 _))
    rw [hg, h1, fl_mask]
    have hp : seen.Perm (List.range es.length) := (List.perm_ext_iff_of_nodup hn List.nodup_range).2 fun i => by
      rw [List.mem_range, ← hel]
      exact ⟨hlt i, hall i⟩
    rw [perm_sum gv hp, range_get (fun e : Int × Int => f e.1) (0, 0) es]
  · intro seen fr2 i k v hg hi he
    have hil : i < es.length := by
      rw [← hel]
      rcases Nat.lt_or_ge i (mpE es).length with h | h
      · exact h
      · rw [List.getElem?_eq_none h] at he; cases he
    have hv : v = i64 (sat (gv i) : Int) := by
      unfold mpE at he
      rw [List.getElem?_map, List.getElem?_eq_getElem hil] at he
      simp only [Option.map_some, Option.some.injEq, Prod.mk.injEq] at he
      rw [← he.2, cn.sum _ (List.getElem_mem hil)]
      simp only [gv]
      rw [List.getD_eq_getElem?_getD, List.getElem?_eq_getElem hil]; rfl
    subst hv
    show runOps SP tab rpC.ops.toList rpC.ops.toList _ ((clr _ (mask [16] fr2)).set rpC.d6 (i64 _)) h
    rw [hg, rpC_run]
    refine ⟨rfl, ?_⟩
    rw [fl2_mask, sat_addJ, List.map_cons, List.sum_cons, Nat.add_comm]
  · show mask [16] (clr [68, 69] fr) = _
    rw [h0]; rfl
end
end Go.Proofs.Ytnamnpbkiibadaa.Cl

/- The program's count of cylinders. No claim is stated here. -/
set_option linter.unusedVariables false
set_option linter.unusedSimpArgs false
namespace Go.Proofs.Ytnamnpbkiibadaa.Cl
open Go
/-- What the first z rounds bring to a number. -/
def bpre (R : PL) (n z : Nat) (k : Int) : Nat := ((R.take z).map fun e => if e.2 = k then bw R n e.1 else 0).sum
theorem bpre_succ {R : PL} {n z : Nat} {k : Int} (h : z < R.length) : bpre R n (z + 1) k = bpre R n z k + if R[z].2 = k then bw R n R[z].1 else 0 := by
  unfold bpre
  rw [List.take_succ_eq_append_getElem h, List.map_append, List.sum_append]
  simp
theorem bpre_all {R : PL} {n : Nat} {k : Int} : bpre R n R.length k = bw R (n + 1) k := by unfold bpre; rw [List.take_length, bw]
theorem bpre0_le (R : PL) (z : Nat) (k : Int) : bpre R 0 z k ≤ R.length := by
  unfold bpre
  refine Nat.le_trans (sum_bound _ _ 1 fun e _ => ?_) (by rw [Nat.mul_one]; exact List.length_take_le' _ _)
  show (if e.2 = k then 1 else 0) ≤ 1
  split <;> omega
theorem Counts.cong {es f g B C} (c : Counts es f B) (h : ∀ k, f k = g k) (hB : ∀ k, C k → B k) : Counts es g C := ⟨c.1, fun k => by rw [c.2.1, h], fun k hk => c.2.2 k (hB k hk)⟩
section
variable {h0 : H} {c : Int} {s : Sl} {ts : List Tile} {a b : Int}
theorem rd_pc {g : H} {o : Nat} {e : Int × Int} (x : Obj g o (pc e)) (i : Nat) (hi : i < 2) {K : Int → Prop} (hk : K ([e.1, e.2].getD i 0)) : ixA ⟨some o, 2, 0⟩ 2 1 (i : Int) fun p => Cl.ldI .i64 p g K := by
  match i, hi with
  | 0, _ => exact ixA_ldI x rfl (by omega) (by omega) (by rfl) hk
  | 1, _ => exact ixA_ldI x rfl (by omega) (by omega) (by rfl) hk
theorem impl_CountCylinders_c (r : Rd h0 s 4 (tcs ts)) (sz : ts.length ≤ 1048576) (ba : i64ok a) (bb : i64ok b) :
    callV SP i_impl_CountCylinders [.agg (SetC c s), i64 a, i64 b] h0 fun v h' => v = .tuple [i64 (F_CountCylinders_0 c ts a b), i64 (F_CountCylinders_1 c ts a b)] ∧ Ext h0 h' := by
  apply impl_CountCylinders_call
  unfold impl_CountCylinders_main
  refine newK_obj fun h1 o1 x1 n1 => ?_
  refine newO_var fun h2 v2 x2 n2 => ?_
  refine newO_var fun h3 v3 x3 n3 => ?_
  have o3 := o1.ext (x2.trans x3)
  have w2 := v2.ext x3
  have x13 := x1.trans (x2.trans x3)
  refine o3.ldA rfl ?_
  refine (setCode_c (r.ext x13) (by omega) _ _ (Size5 a b) fun _ h x => ?_).to ?_
  · apply impl_CountCylinders_1_call
    unfold impl_CountCylinders_1_main
    refine (w2.ext x).ldI ?_
    refine within_k ?_
    refine bif_dec (fun h1 => ?_) (fun h1 => ⟨_, rfl, ⟨fun f => by simp at f, fun f => absurd f.1 h1⟩, Ext.refl _⟩)
    refine (v3.ext x).ldI ?_
    refine within_k ⟨_, rfl, ?_, Ext.refl _⟩
    rw [decide_eq_true_eq]
    exact ⟨fun f => ⟨h1, f⟩, fun f => f.2⟩
  rintro n h4 ⟨rfl, x4⟩
  have X := x13.trans x4
  refine bif_ne (fun hq => ⟨?_, X⟩) (fun hq => ?_)
  · rw [F_CountCylinders_0, F_CountCylinders_1, sel_no (codeOf_cond hq), sel_no (codeOf_cond hq)]
  obtain ⟨hs, hz⟩ := codeOf_zero hq
  obtain ⟨H_, rfl⟩ : ∃ H_ : Nat, a = H_ := ⟨a.toNat, by have := hz.1.1; omega⟩
  obtain ⟨W, rfl⟩ : ∃ W : Nat, b = W := ⟨b.toNat, by have := hz.2.1; omega⟩
  have hW : 1 ≤ W ∧ W ≤ 3 := by have := hz.2; omega
  have hH : 1 ≤ H_ ∧ H_ ≤ 5 := by have := hz.1; omega
  have S := hs.sides
  have hN : ts.length ≤ 16 := hs.2.1
  have hc6 : c ≤ 6 := hs.1.2
  refine (o3.ext x4).ldA rfl ?_
  refine (v3.ext x4).ldI ?_
  refine (rounds_c (r.ext X) S hc6 hN hW).to ?_
  rintro u h5 ⟨ru, x5⟩
  generalize hR : RI c ts W = R at ru
  have hRl : R.length ≤ 4096 := by rw [← hR]; exact RI_len S hN hW
  have hul := ru.plen
  have hcyl : cyl c ts H_ W = tot R (H_ - 1) := by
    unfold cyl
    rw [Int.toNat_natCast, Int.toNat_natCast, ← hR]
    exact (tot_same (same_RI S hW.1) _).symm
  have hin : ∀ e ∈ R, ∃ d ∈ R, d.2 = e.2 := fun e he => ⟨e, he, rfl⟩
  have w5 := w2.ext (x4.trans x5)
  have X5 := X.trans x5
  refine newM_I fun h6 m6 x6 l6 => ?_
  refine impl_CountCylinders_rule0 _ _ _ _ _ _ _ (fun i g => ∃ z : Nat, i = z ∧ z ≤ R.length ∧ Ext h5 g ∧ h6.length ≤ g.length ∧ ∃ es, MpI g h5.length es ∧ Counts es (bpre R 0 z) fun k => k ∈ (R.take z).map (·.2)) (fun i _ => (R.length - i).toNat) ?_ _ ⟨0, rfl, by omega, x6, Nat.le_refl _, [], m6, ⟨List.nodup_nil, fun k => rfl, fun k hk => by simp at hk⟩⟩
  rintro X0 _ g ⟨z, rfl, hz0, xg, lg, es, mg, cg⟩ hX
  unfold impl_CountCylinders_b0
  refine bif_dec (fun hi => ?_) (fun hi => ?_)
  · have hz1 : z < R.length := by omega
    refine (ru.ext xg).ldP hz1 ?_
    refine newO_obj fun g1 q1 y1 k1 => ?_
    refine q1.stA fun g2 q2 b2 k2 => ?_
    have y2 : Ext g g2 := y1.but_ b2 (some_le (Nat.le_refl _))
    refine rd_pc q2 1 (by omega) ?_
    show mgetI .i64 _ (i64 R[z].2) _ _
    refine mget_I (mg.ext y2) _ ?_
    have hb0 := bpre0_le R z R[z].2
    have hv : w64 (lkI R[z].2 es + 1) = (sat (bpre R 0 z R[z].2 + 1) : Int) := by
      rw [cg.2.1, w64_of (by have := sat_le (bpre R 0 z R[z].2); omega) (by have := sat_le (bpre R 0 z R[z].2); omega), sat_self _ (by omega), sat_self _ (by omega)]
      push_cast; rfl
    rw [hv]
    refine mput_I (mg.ext y2) _ _ fun g3 m3 b3 k3 => ?_
    rw [w64_of (n := (z : Int) + 1) (by omega) (by omega)]
    have hy := y2.len
    refine hX _ _ ⟨z + 1, by push_cast; rfl, hz1, (xg.trans y2).but_ b3 (some_le (Nat.le_refl _)), by omega, _, m3, (cg.put R[z].2 1).cong (fun k => ?_) fun k hk => ?_⟩ (by omega)
    · rw [bpre_succ hz1]; rfl
    · rw [List.take_succ_eq_append_getElem hz1, List.map_append, List.mem_append] at hk
      exact hk.imp id fun h => by simpa using h
  · unfold impl_CountCylinders_C0
    rw [show z = R.length by omega] at cg
    refine (w5.ext xg).ldI ?_
    rw [w64_of (n := (H_ : Int) - 1) (by omega) (by omega)]
    refine impl_CountCylinders_rule2 _ _ _ _ (fun m i g => ∃ z : Nat, i = z ∧ z ≤ H_ - 1 ∧ Ext h5 g ∧ ∃ o es, m = .map (some o) ∧ h5.length ≤ o ∧ MpI g o es ∧ Counts es (bw R (z + 1)) fun k => k ∈ R.map (·.2)) (fun _ i _ => (H_ - i).toNat) ?_ _ _ ⟨0, rfl, by omega, xg, _, es, rfl, Nat.le_refl _, mg, cg.cong (fun k => bpre_all) fun k hk => by rw [List.take_length]; exact hk⟩
    clear hX cg mg xg lg hi
    rintro X2 _ _ g ⟨z, rfl, hz1, xg, o, es, rfl, ho, mg, cg⟩ hX
    unfold impl_CountCylinders_b2
    refine bif_dec (fun hi => ?_) (fun hi => ?_)
    · refine newM_I fun g1 m1 y1 k1 => ?_
      have hol := mg.lt
      refine impl_CountCylinders_rule4 _ _ X2 _ _ _ _ _ _ _ (fun i g' => ∃ w : Nat, i = w ∧ w ≤ R.length ∧ Ext g g' ∧ g1.length ≤ g'.length ∧ ∃ es', MpI g' g.length es' ∧ Counts es' (bpre R (z + 1) w) fun k => k ∈ (R.take w).map (·.2)) (fun i _ => (R.length - i).toNat) ?_ _ ⟨0, rfl, by omega, y1, Nat.le_refl _, [], m1, ⟨List.nodup_nil, fun k => rfl, fun k hk => by simp at hk⟩⟩
      rintro X4 _ g' ⟨w, rfl, hw, xg', lg', es', mg', cg'⟩ hY
      unfold impl_CountCylinders_b4 impl_CountCylinders_C4 impl_CountCylinders_C3
      refine bif_dec (fun hj => ?_) (fun hj => ?_)
      · have hw1 : w < R.length := by omega
        refine (ru.ext (xg.trans xg')).ldP hw1 ?_
        refine newO_obj fun q1 p1 y2 k2 => ?_
        refine p1.stA fun q2 p2 b2 k3 => ?_
        have y3 : Ext g' q2 := y2.but_ b2 (some_le (Nat.le_refl _))
        refine rd_pc p2 1 (by omega) ?_
        refine rd_pc p2 1 (by omega) ?_
        show mgetI .i64 _ (i64 R[w].2) _ _
        refine mget_I (mg'.ext y3) _ ?_
        refine rd_pc p2 0 (by omega) ?_
        show mgetI .i64 _ (i64 R[w].1) _ _
        refine mget_I (mg.ext (xg'.trans y3)) _ ?_
        rw [cg'.2.1, cg.2.1, sat_addJ]
        refine mput_I (mg'.ext y3) _ _ fun q3 m3 b3 k4 => ?_
        rw [w64_of (n := (w : Int) + 1) (by omega) (by omega)]
        have hy := y3.len
        refine hY _ _ ⟨w + 1, by push_cast; rfl, hw1, (xg'.trans y3).but_ b3 (some_le (Nat.le_refl _)), by omega, _, m3, (cg'.put R[w].2 (bw R (z + 1) R[w].1)).cong (fun k => ?_) fun k hk => ?_⟩ (by omega)
        · rw [bpre_succ hw1]
        · rw [List.take_succ_eq_append_getElem hw1, List.map_append, List.mem_append] at hk
          exact hk.imp id fun h => by simpa using h
      · rw [show w = R.length by omega] at cg'
        rw [w64_of (n := (z : Int) + 1) (by omega) (by omega)]
        refine hX _ _ _ ⟨z + 1, by push_cast; rfl, by omega, xg.trans xg', g.length, es', rfl, xg.len, mg', cg'.cong (fun k => bpre_all) fun k hk => by rw [List.take_length]; exact hk⟩ (by omega)
    · have hzH : z + 1 = H_ := by omega
      unfold impl_CountCylinders_C2
      refine cyl_range mg cg (by rfl) (by kernel_rfl) (fun n => by kernel_rfl) (by rfl) ?_
      have hsum : (es.map fun e => bw R (z + 1) e.1).sum = cyl c ts H_ W := by
        have : (es.map fun e => bw R (z + 1) e.1) = (es.map (·.1)).map fun k => bw R (z + 1) k := by rw [List.map_map]; rfl
        rw [this, bw_tot cg.1 fun e he => cg.2.2 _ (List.mem_map.2 ⟨e, he, rfl⟩), hcyl, show z = H_ - 1 by omega]
      rw [hsum]
      apply impl_counted_call
      unfold impl_counted_main
      refine bif_dec (fun hb => ?_) (fun hb => ?_)
      · refine ⟨_, rfl, _, rfl, _, rfl, _, rfl, ?_, X5.trans xg⟩
        rw [F_CountCylinders_0, F_CountCylinders_1, sel_yes ⟨hs, hz⟩, sel_yes ⟨hs, hz⟩, if_neg, if_neg]
        · have := sat_big.1 hb; omega
        · have := sat_big.1 hb; omega
      · refine ⟨_, rfl, _, rfl, _, rfl, _, rfl, ?_, X5.trans xg⟩
        have hle : cyl c ts H_ W ≤ 1000000000000000 := by
          rcases Nat.lt_or_ge 1000000000000000 (cyl c ts H_ W) with h | h
          · exact absurd (sat_big.2 h) hb
          · exact h
        rw [F_CountCylinders_0, F_CountCylinders_1, sel_yes ⟨hs, hz⟩, sel_yes ⟨hs, hz⟩, if_pos hle, if_pos hle, sat_self _ hle]
end
end Go.Proofs.Ytnamnpbkiibadaa.Cl

/- What the arguments of a law are. No claim is stated here. -/
set_option linter.unusedVariables false
set_option linter.unusedSimpArgs false
namespace Go.Proofs.Ytnamnpbkiibadaa.Cl
open Go
theorem den_int {P : Program} {h : H} {t : TypeId} {xs : List AVal} {pd : PD} {k : IntKind} (hu : P.underlying t = some (.int k)) (d : Den P h t xs pd) : ∃ n, xs = [.int k n] ∧ (Lit.int k n).wf = true := by
  cases d with
  | int a b => rw [hu] at a; cases a; exact ⟨_, rfl, b⟩
  | bool a => rw [hu] at a; cases a
  | arr a => rw [hu] at a; cases a
  | struct a => rw [hu] at a; cases a
  | sl a => rw [hu] at a; cases a
theorem den_tile {P : Program} {h : H} {t e : TypeId} {xs : List AVal} {pd : PD} (hu : P.underlying t = some (.array 4 e)) (he : P.underlying e = some (.int .i64)) (d : Den P h t xs pd) : ∃ t : Tile, xs = tc t := by
  cases d with
  | int a b => rw [hu] at a; cases a
  | bool a => rw [hu] at a; cases a
  | @arr t n e' ass ds a b c d =>
    rw [hu] at a; cases a
    match ass, ds, b, c, d with
    | [a0, a1, a2, a3], [d0, d1, d2, d3], _, _, d =>
      obtain ⟨n0, rfl, _⟩ := den_int he (d 0 a0 d0 rfl rfl)
      obtain ⟨n1, rfl, _⟩ := den_int he (d 1 a1 d1 rfl rfl)
      obtain ⟨n2, rfl, _⟩ := den_int he (d 2 a2 d2 rfl rfl)
      obtain ⟨n3, rfl, _⟩ := den_int he (d 3 a3 d3 rfl rfl)
      exact ⟨(n0, n1, n2, n3), rfl⟩
  | struct a => rw [hu] at a; cases a
  | sl a => rw [hu] at a; cases a
theorem den_sl {P : Program} {h : H} {t e : TypeId} {xs : List AVal} {pd : PD} (hu : P.underlying t = some (.slice e)) (d : Den P h t xs pd) : ∃ (s : Sl) (ass : List (List AVal)) (ds : List PD), xs = [.sl s] ∧ ass.length = s.len ∧ ds.length = s.len ∧ s.len ≤ maxLen ∧ Rd h s (P.cellsOf e) ass.flatten ∧ ∀ (i : Nat) a d, ass[i]? = some a → ds[i]? = some d → Den P h e a d := by
  cases d with
  | int a b => rw [hu] at a; cases a
  | bool a => rw [hu] at a; cases a
  | arr a => rw [hu] at a; cases a
  | struct a => rw [hu] at a; cases a
  | sl a b c d e f => rw [hu] at a; cases a; exact ⟨_, _, _, rfl, b, c, d, e, f⟩
theorem all_tiles {P : Program} {h : H} {t e : TypeId} (hu : P.underlying t = some (.array 4 e)) (he : P.underlying e = some (.int .i64)) : ∀ (ass : List (List AVal)) (ds : List PD), ass.length = ds.length → (∀ (i : Nat) a d, ass[i]? = some a → ds[i]? = some d → Den P h t a d) → ∃ ts : List Tile, ass.flatten = tcs ts
  | [], _, _, _ => ⟨[], rfl⟩
  | a :: ass, [], h, _ => by simp at h
  | a :: ass, d :: ds, hl, hd => by
    obtain ⟨t, rfl⟩ := den_tile hu he (hd 0 a d rfl rfl)
    obtain ⟨ts, e⟩ := all_tiles hu he ass ds (by simpa using hl) (fun i a d x y => hd (i + 1) a d (by simpa using x) (by simpa using y))
    exact ⟨t :: ts, by rw [List.flatten_cons, e, tcs_cons]⟩
theorem arg_tiles {P : Program} {h : H} {t u e : TypeId} {xs : List AVal} {pd : PD} (ht : P.underlying t = some (.slice u)) (hu : P.underlying u = some (.array 4 e)) (he : P.underlying e = some (.int .i64)) (hc : P.cellsOf u = 4) (d : Den P h t xs pd) : ∃ (s : Sl) (ts : List Tile), xs = [.sl s] ∧ Rd h s 4 (tcs ts) ∧ s.len ≤ 9223372036854775807 := by
  obtain ⟨s, ass, ds, rfl, l1, l2, l3, r, hd⟩ := den_sl ht d
  obtain ⟨ts, e⟩ := all_tiles hu he ass ds (by omega) hd
  rw [hc, e] at r
  exact ⟨s, ts, rfl, r, by unfold maxLen at l3; omega⟩
theorem sep_of {n : Nat} {s w : Sl} {g : H} {z : Nat} {cs : List AVal} (f : Fr n s) (r : Ow g w z cs) (h : g.length ≤ n) : s.o ≠ w.o ∨ s.o = none := by
  cases hs : s.o with
  | none => exact .inr rfl
  | some o =>
    refine .inl fun e => ?_
    have h1 := f o hs
    have h2 := r.lt e.symm
    omega
theorem all_ints {P : Program} {h : H} {t : TypeId} (ht : P.underlying t = some (.int .i64)) : ∀ (ass : List (List AVal)) (ds : List PD), ass.length = ds.length → (∀ (i : Nat) a d, ass[i]? = some a → ds[i]? = some d → Den P h t a d) → ∃ l : List Int, ass.flatten = ic l
  | [], _, _, _ => ⟨[], rfl⟩
  | a :: ass, [], h, _ => by simp at h
  | a :: ass, d :: ds, hl, hd => by
    obtain ⟨n, rfl, _⟩ := den_int ht (hd 0 a d rfl rfl)
    obtain ⟨l, e⟩ := all_ints ht ass ds (by simpa using hl) (fun i a d x y => hd (i + 1) a d (by simpa using x) (by simpa using y))
    exact ⟨n :: l, by rw [List.flatten_cons, e, ic_cons]; rfl⟩
theorem arg_ints {P : Program} {h : H} {t u : TypeId} {xs : List AVal} {pd : PD} (ht : P.underlying t = some (.slice u)) (hu : P.underlying u = some (.int .i64)) (hc : P.cellsOf u = 1) (d : Den P h t xs pd) : ∃ (s : Sl) (l : List Int), xs = [.sl s] ∧ Rd h s 1 (ic l) ∧ s.len ≤ 9223372036854775807 := by
  obtain ⟨s, ass, ds, rfl, l1, l2, l3, r, hd⟩ := den_sl ht d
  obtain ⟨l, e⟩ := all_ints hu ass ds (by omega) hd
  rw [hc, e] at r
  exact ⟨s, l, rfl, r, by unfold maxLen at l3; omega⟩
theorem all_rows {P : Program} {h : H} {t u : TypeId} (ht : P.underlying t = some (.slice u)) (hu : P.underlying u = some (.int .i64)) (hc : P.cellsOf u = 1) : ∀ (ass : List (List AVal)) (ds : List PD), ass.length = ds.length → (∀ (i : Nat) a d, ass[i]? = some a → ds[i]? = some d → Den P h t a d) →
    ∃ (vs : List Sl) (ls : List (List Int)), ass.flatten = vs.map .sl ∧ vs.length = ass.length ∧ ls.length = ass.length ∧ (∀ (i : Nat) v l, vs[i]? = some v → ls[i]? = some l → Rd h v 1 (ic l)) ∧ ∀ l ∈ ls, l.length ≤ 9223372036854775807
  | [], _, _, _ => ⟨[], [], rfl, rfl, rfl, fun i v l h => by simp at h, fun l h => by simp at h⟩
  | a :: ass, [], h, _ => by simp at h
  | a :: ass, d :: ds, hl, hd => by
    obtain ⟨s, l, rfl, r, b⟩ := arg_ints ht hu hc (hd 0 a d rfl rfl)
    obtain ⟨vs, ls, e1, e2, e3, e4, e5⟩ := all_rows ht hu hc ass ds (by simpa using hl) (fun i a d x y => hd (i + 1) a d (by simpa using x) (by simpa using y))
    refine ⟨s :: vs, l :: ls, by rw [List.flatten_cons, e1]; rfl, by simp [e2], by simp [e3], fun i v l' h1 h2 => ?_, fun l' h => ?_⟩
    · cases i with
      | zero => simp at h1 h2; subst h1 h2; exact r
      | succ i => exact e4 i v l' (by simpa using h1) (by simpa using h2)
    · rcases List.mem_cons.1 h with rfl | h
      · have := r.ilen; omega
      · exact e5 l' h
theorem arg_rows {P : Program} {h : H} {t u e : TypeId} {xs : List AVal} {pd : PD} (ht : P.underlying t = some (.slice u)) (hu : P.underlying u = some (.slice e)) (he : P.underlying e = some (.int .i64)) (hc : P.cellsOf u = 1) (hc' : P.cellsOf e = 1) (d : Den P h t xs pd) :
    ∃ (s : Sl) (ls : List (List Int)), xs = [.sl s] ∧ RdSS h s ls ∧ s.len ≤ 9223372036854775807 ∧ ∀ l ∈ ls, l.length ≤ 9223372036854775807 := by
  obtain ⟨s, ass, ds, rfl, l1, l2, l3, r, hd⟩ := den_sl ht d
  obtain ⟨vs, ls, e1, e2, e3, e4, e5⟩ := all_rows hu he hc' ass ds (by omega) hd
  rw [hc, e1] at r
  exact ⟨s, ls, rfl, ⟨vs, by omega, r, e4⟩, by unfold maxLen at l3; omega, e5⟩
theorem arg_int {P : Program} {h : H} {t : TypeId} {xs : List AVal} {pd : PD} (ht : P.underlying t = some (.int .i64)) (d : Den P h t xs pd) : ∃ n, xs = [i64 n] ∧ i64ok n := by
  obtain ⟨n, rfl, w⟩ := den_int ht d
  refine ⟨n, rfl, ?_⟩
  have w' : (decide (IntKind.i64.min ≤ n) && decide (n ≤ IntKind.i64.max)) = true := w
  simp only [Bool.and_eq_true, decide_eq_true_eq] at w'
  unfold i64ok
  have h1 : IntKind.i64.min = -9223372036854775808 := by decide
  have h2 : IntKind.i64.max = 9223372036854775807 := by decide
  omega
def structOK (P : Program) (t c u : TypeId) : Bool := match P.underlying t with
  | some (.struct fs) => fs.size == 2 && (fs[0]?).map (·.type) == some c && (fs[1]?).map (·.type) == some u
  | _ => false
theorem arg_set0 {P : Program} {h : H} {t c u v e : TypeId} {xs : List AVal} {pd : PD} {fs : Array Field} (ht : P.underlying t = some (.struct fs)) (hs : fs.size = 2) (h0 : (fs[0]?).map (·.type) = some c) (h1 : (fs[1]?).map (·.type) = some u) (hc : P.underlying c = some (.int .i64)) (hu : P.underlying u = some (.slice v)) (hv : P.underlying v = some (.array 4 e)) (he : P.underlying e = some (.int .i64)) (hz : P.cellsOf v = 4) (d : Den P h t xs pd) :
    ∃ (n : Int) (s : Sl) (ts : List Tile), xs = SetC n s ∧ Rd h s 4 (tcs ts) ∧ s.len ≤ 9223372036854775807 := by
  cases d with
  | int a b => rw [ht] at a; cases a
  | bool a => rw [ht] at a; cases a
  | arr a => rw [ht] at a; cases a
  | @struct t fs' ass ds a b b' d =>
    rw [ht] at a; cases a
    rw [hs] at b b'
    match ass, ds, b, b', d with
    | [a0, a1], [d0, d1], _, _, d =>
      cases e0 : fs[0]? with
      | none => rw [e0] at h0; cases h0
      | some f0 =>
        cases e1 : fs[1]? with
        | none => rw [e1] at h1; cases h1
        | some f1 =>
          rw [e0] at h0; rw [e1] at h1
          simp at h0 h1
          have k0 := d 0 f0 a0 d0 e0 rfl rfl
          have k1 := d 1 f1 a1 d1 e1 rfl rfl
          rw [h0] at k0; rw [h1] at k1
          obtain ⟨n, rfl, _⟩ := den_int hc k0
          obtain ⟨s, ts, rfl, r, b⟩ := arg_tiles hu hv he hz k1
          exact ⟨n, s, ts, rfl, r, b⟩
  | sl a => rw [ht] at a; cases a
theorem arg_set {P : Program} {h : H} {t c u v e : TypeId} {xs : List AVal} {pd : PD} (ht : structOK P t c u = true) (hc : P.underlying c = some (.int .i64)) (hu : P.underlying u = some (.slice v)) (hv : P.underlying v = some (.array 4 e)) (he : P.underlying e = some (.int .i64)) (hz : P.cellsOf v = 4) (d : Den P h t xs pd) :
    ∃ (n : Int) (s : Sl) (ts : List Tile), xs = SetC n s ∧ Rd h s 4 (tcs ts) ∧ s.len ≤ 9223372036854775807 := by
  unfold structOK at ht
  split at ht
  · next fs hf =>
    simp only [Bool.and_eq_true, beq_iff_eq] at ht
    exact arg_set0 hf ht.1.1 ht.1.2 ht.2 hc hu hv he hz d
  · cases ht
end Go.Proofs.Ytnamnpbkiibadaa.Cl
