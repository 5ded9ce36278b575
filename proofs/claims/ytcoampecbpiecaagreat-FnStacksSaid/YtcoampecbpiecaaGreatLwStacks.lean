/- The law FnStacks holds of all codes. The statement itself stands in another text. -/
import Derived.Test.YtcoampecbpiecaaGreatFb1
set_option linter.unusedVariables false
set_option linter.unusedSimpArgs false
namespace Go.Proofs.YtcoampecbpiecaaGreat.Cl
open Go
/-! ### plain -/
section
variable {c d : Int} {S T : List Tile} {l : List Int}
theorem codeSp_ok (h : codeSp c S d T l = 0) : (setOK c S ∧ setOK d T) ∧ stkE c d S T = 0 ∧ rowOK (stkF c d S T).2 l := by
  by_cases h1 : setOK c S ∧ setOK d T
  · by_cases h2 : stkE c d S T = 0
    · by_cases h3 : rowOK (stkF c d S T).2 l
      · exact ⟨h1, h2, h3⟩
      · rw [← codeSp_2 h1 h2 h3] at h; cases h
    · rw [← codeSp_e h1 h2] at h; exact absurd h h2
  · rw [← codeSp_1 h1] at h; cases h
theorem stk1_ok (h : F_StackSets_1 c S d T = 0) : (setOK c S ∧ setOK d T) ∧ stkE c d S T = 0 := by
  unfold F_StackSets_1 at h
  split at h
  · next h1 => exact ⟨h1, h⟩
  · cases h
theorem stk0_of (h : setOK c S ∧ setOK d T) : F_StackSets_0 c S d T = stkF c d S T := by unfold F_StackSets_0; rw [if_pos h]
theorem stk1_of (h : setOK c S ∧ setOK d T) : F_StackSets_1 c S d T = stkE c d S T := by unfold F_StackSets_1; rw [if_pos h]
theorem stkE_len (h : stkE c d S T = 0) : ((prsP S T).length : Int) ≤ (stkF c d S T).1 ∧ (stkF c d S T).2.length ≤ S.length * T.length := by
  have h1 := (stkE_0 h).1
  refine ⟨?_, ?_⟩
  · unfold stkE at h
    unfold stkF
    split at h
    · next hf =>
      rw [if_pos hf]
      show ((prsP S T).length : Int) ≤ stkC c d S T
      unfold stkC mxI
      split <;> split <;> omega
    · cases h
  · rw [h1]
    have h2 := dsT_len (stkT S T)
    have h3 := stkI_len S T S.length
    unfold stkT at h2 ⊢
    rw [List.length_map] at h2
    omega
open Classical in
noncomputable def psK (c : Int) (S : List Tile) (d : Int) (T : List Tile) : Int := if setOK c S ∧ setOK d T then 0 else 1
open Classical in
noncomputable def psL (c : Int) (S : List Tile) (d : Int) (T : List Tile) : List (List Int) := if setOK c S ∧ setOK d T then prL S T else []
theorem PsRes.get {h h' : H} {a : AVal} (r : PsRes c S d T h a h') : ∃ z, a = .tuple [.sl z, i64 (psK c S d T)] ∧ RdSS h' z (psL c S d T) ∧ Ext h h' := by
  obtain ⟨h1, h2, x⟩ := r
  unfold psK psL
  by_cases hq : setOK c S ∧ setOK d T
  · obtain ⟨z, e, rd⟩ := h1 hq
    rw [if_pos hq, if_pos hq]
    exact ⟨z, e, rd, x⟩
  · rw [if_neg hq, if_neg hq]
    exact ⟨_, h2 hq, ⟨[], rfl, Rd.nil _ _, fun i v l a => by simp at a⟩, x⟩
theorem psL_len (hS : S.length ≤ 1000) (hT : T.length ≤ 1000) : (psL c S d T).length ≤ 2000000 ∧ ∀ l ∈ psL c S d T, l.length = 2 := by
  unfold psL
  split
  · have h1 := prsP_lenX S T
    have h2 : S.length * T.length ≤ 1000 * 1000 := Nat.mul_le_mul hS hT
    unfold prL
    refine ⟨by rw [List.length_map]; omega, fun l hl => ?_⟩
    obtain ⟨e, _, rfl⟩ := List.mem_map.1 hl
    rfl
  · exact ⟨by simp, fun l hl => by cases hl⟩
end
/-! ### the law -/
def stkTail (K : AVal → H → Prop) (p10 p12 : Pt) (s9 s21 s23 : Sl) (n25 : Int) (h94 : H) : Prop :=
 bif (n25 != (0)) then
 K (.bool ((s21.len : Int) == (0))) h94
 else
 ldA p10 2 h94 fun cs147 =>
 callV SP i_impl_WordsOfRow [.agg cs147, .sl s21] h94 fun v149 h148 =>
 viaT v149 fun vs150 =>
 exS vs150 0 fun s151 =>
 viaT v149 fun vs152 =>
 exS vs152 1 fun s153 =>
 viaT v149 fun vs154 =>
 exI .i64 vs154 2 fun n155 =>
 ldA p12 2 h148 fun cs156 =>
 callV SP i_impl_WordsOfRow [.agg cs156, .sl s23] h148 fun v158 h157 =>
 viaT v158 fun vs159 =>
 exS vs159 0 fun s160 =>
 viaT v158 fun vs161 =>
 exS vs161 1 fun s162 =>
 viaT v158 fun vs163 =>
 exI .i64 vs163 2 fun n164 =>
 ldA p10 2 h157 fun cs165 =>
 ldA p12 2 h157 fun cs166 =>
 callV SP i_impl_StackSets [.agg cs165, .agg cs166] h157 fun v168 h167 =>
 viaT v168 fun vs169 =>
 exA vs169 0 fun cs170 =>
 viaT v168 fun vs171 =>
 exI .i64 vs171 1 fun n172 =>
 newO [.int .i64 (0), .sl Sl.nil] h167 fun p173 h174 =>
 stN p173 2 cs170 h174 fun h175 =>
 ldA p173 2 h175 fun cs176 =>
 callV SP i_impl_WordsOfRow [.agg cs176, .sl s9] h175 fun v178 h177 =>
 viaT v178 fun vs179 =>
 exS vs179 0 fun s180 =>
 viaT v178 fun vs181 =>
 exS vs181 1 fun s182 =>
 viaT v178 fun vs183 =>
 exI .i64 vs183 2 fun n184 =>
 bif (n155 == (0)) then
 bif (n164 == (0)) then
 callB SP i_laws_likeInts [.sl s153, .sl s160] h177 fun b186 h185 =>
 bif b186 then
 bif (n172 == (0)) then
 bif (n184 == (0)) then
 callB SP i_laws_likeInts [.sl s180, .sl s151] h185 fun b188 h187 =>
 bif b188 then
 callB SP i_laws_likeInts [.sl s182, .sl s162] h187 fun b190 h189 =>
 K (.bool b190) h189
 else
 K (.bool false) h187
 else
 K (.bool false) h185
 else
 K (.bool false) h185
 else
 K (.bool false) h185
 else
 K (.bool false) h177
 else
 K (.bool false) h177

section
variable {g : H} {u w x a b : Sl} {c d : Int} {ts us : List Tile} {l : List Int}
theorem stkTail_c {o1 o2 : Nat} (p1 : Obj g o1 (SetC c u)) (p2 : Obj g o2 (SetC d w)) (ru : Rd g u 4 (tcs ts)) (rw' : Rd g w 4 (tcs us)) (hu : ts.length ≤ 17) (hw : us.length ≤ 17) (rx : Rd g x 1 (ic l)) (hl : l.length ≤ 1000)
    (ra : Rd g a 1 (ic (F_SplitRow_0 c ts d us l))) (rb : Rd g b 1 (ic (F_SplitRow_1 c ts d us l))) : stkTail (fun v _ => ∃ b, v = AVal.bool b ∧ b = true) ⟨some o1, 2, 0⟩ ⟨some o2, 2, 0⟩ x a b (codeSp c ts d us l) g := by
  unfold stkTail
  refine bif_ne (fun hq => ⟨_, rfl, ?_⟩) (fun hq => ?_)
  · rw [F_Sp0n hq] at ra
    have := ra.ilen
    rw [this]; rfl
  obtain ⟨hS, hE, hR⟩ := codeSp_ok hq
  have eA : F_SplitRow_0 c ts d us l = upL (stkF c d ts us).2 ts us l := F_Sp0 hq
  have eB : F_SplitRow_1 c ts d us l = loL (stkF c d ts us).2 ts us l := F_Sp1 hq
  rw [eA] at ra
  rw [eB] at rb
  obtain ⟨rA, rB⟩ := split_rows hE hR
  refine p1.ldA rfl ?_
  refine (words_c (c := c) ru ra hS.1 rA).to ?_
  rintro _ h1 ⟨y1, z1, rfl, ry1, rz1, x1⟩
  refine ⟨_, rfl, _, rfl, _, rfl, _, rfl, _, rfl, _, rfl, ?_⟩
  refine (p2.ext x1).ldA rfl ?_
  refine (words_c (c := d) (rw'.ext x1) (rb.ext x1) hS.2 rB).to ?_
  rintro _ h2 ⟨y2, z2, rfl, ry2, rz2, x2⟩
  refine ⟨_, rfl, _, rfl, _, rfl, _, rfl, _, rfl, _, rfl, ?_⟩
  have X2 := x1.trans x2
  refine (p1.ext X2).ldA rfl ((p2.ext X2).ldA rfl ?_)
  refine (impl_StackSets_c (ru.ext X2) (rw'.ext X2) (by omega) (by omega)).to ?_
  rintro _ h3 ⟨v, rfl, pv, fv, x3⟩
  refine ⟨_, rfl, _, rfl, _, rfl, _, rfl, ?_⟩
  refine newbox fun h4 o4 x4 n4 => ?_
  rw [stk0_of hS] at pv ⊢
  rw [stk1_of hS]
  have X4 := X2.trans (x3.trans x4)
  refine (words_c (c := (stkF c d ts us).1) (pv.rd.ext x4) (rx.ext X4) (stk_ok hS.1 hS.2 hE) hR).to ?_
  rintro _ h5 ⟨y5, z5, rfl, ry5, rz5, x5⟩
  refine ⟨_, rfl, _, rfl, _, rfl, _, rfl, _, rfl, _, rfl, ?_⟩
  have hr20 := hR.1
  have wl : ∀ (L : List Tile) (m : List Int) (k : Nat), (wordL L m k).length = m.length := fun L m k => List.length_map _
  have uL : (upL (stkF c d ts us).2 ts us l).length = l.length := List.length_map _
  have lL : (loL (stkF c d ts us).2 ts us l).length = l.length := List.length_map _
  refine bif_eq (fun _ => ?_) (fun hne => absurd rfl hne)
  refine bif_eq (fun _ => ?_) (fun hne => absurd rfl hne)
  have Z := x3.trans (x4.trans x5)
  refine (likeInts_c (rz1.ext (x2.trans Z)) (ry2.ext Z) (by rw [wl, uL]; omega)).to ?_
  rintro _ _ ⟨rfl, rfl⟩
  refine bif_b (fun _ => ?_) (fun hf => ?_)
  rotate_left
  · rw [split_mid hE hR] at hf; simp at hf
  refine bif_eq (fun _ => ?_) (fun hne => absurd hE hne)
  refine bif_eq (fun _ => ?_) (fun hne => absurd rfl hne)
  refine (likeInts_c ry5 (ry1.ext (x2.trans Z)) (by rw [wl]; omega)).to ?_
  rintro _ _ ⟨rfl, rfl⟩
  refine bif_b (fun _ => ?_) (fun hf => ?_)
  rotate_left
  · rw [split_north hE hR] at hf; simp at hf
  refine (likeInts_c rz5 (rz2.ext Z) (by rw [wl]; omega)).to ?_
  rintro _ _ ⟨rfl, rfl⟩
  refine ⟨_, rfl, ?_⟩
  rw [split_south hE hR]; simp
end
theorem law_Stacks {h : H} {s0 : Sl} {q0 : List Int} (r0 : Rd h s0 1 (bc q0)) (hq0 : ∀ b ∈ q0, 0 ≤ b ∧ b < 256) : callB SP i_laws_FnStacks [.sl s0] h fun b _ => b = true := by
  have hsl := r0.blen
  apply laws_FnStacks_call
  unfold laws_FnStacks_main
  refine (big_c s0).to ?_
  rintro _ _ ⟨rfl, rfl⟩
  refine bif_dec (fun _ => ⟨_, rfl, rfl⟩) (fun hbig => ?_)
  have C0 : CodeB h s0 q0 := ⟨r0, by omega, hq0⟩
  refine (DrawSplitRow_c C0).to ?_
  rintro _ h2 ⟨u, c, ts, w, d, us, x, l, rfl, ru, hu, rw', hw, rx, hl, x2⟩
  refine ⟨_, rfl, _, rfl, _, rfl, _, rfl, _, rfl, _, rfl, ?_⟩
  refine newbox2 fun h3 o1 o2 x3 n3 => ?_
  have ru3 := ru.ext x3
  have rw3 := rw'.ext x3
  have rx3 := rx.ext x3
  refine (impl_SplitRow_c ru3 rw3 rx3 (by omega) (by omega) (by omega)).to ?_
  rintro _ h4 ⟨a, b, rfl, oa, fa, ob, fb, _, x4⟩
  refine ⟨_, rfl, _, rfl, _, rfl, _, rfl, _, rfl, _, rfl, ?_⟩
  refine (o1.ext x4).ldA rfl ((o2.ext x4).ldA rfl ?_)
  refine (spec_SplitRow_c (ru3.ext x4) (rw3.ext x4) (rx3.ext x4) (by omega) (by omega) (by omega)).to ?_
  rintro _ h5 ⟨a', b', rfl, oa', fa', ob', fb', _, x5⟩
  refine ⟨_, rfl, _, rfl, _, rfl, _, rfl, _, rfl, _, rfl, ?_⟩
  refine bif_ne (fun hq => absurd rfl hq) (fun _ => ?_)
  have sm0 := SplitRow_small0 (c := c) (S := ts) (d := d) (T := us) (l := l) (by omega) (by omega) (by omega)
  have sm1 := SplitRow_small1 (c := c) (S := ts) (d := d) (T := us) (l := l) (by omega) (by omega) (by omega)
  refine likeInts_yes (oa.ext x5).rd oa'.rd (by omega) ?_
  refine likeInts_yes (ob.ext x5).rd ob'.rd (by omega) ?_
  have X5 := x4.trans x5
  refine (DrawStackSets_c ((C0.ext x2).ext (x3.trans X5))).to ?_
  rintro _ g1 ⟨u2, c2, ts2, w2, d2, us2, rfl, ru2, hu2, fu2, rw2, hw2, fw2, y1⟩
  refine ⟨_, rfl, _, rfl, _, rfl, _, rfl, ?_⟩
  refine newbox2 fun g2 q1 q2 y2 m2 => ?_
  replace ru2 := ru2.ext y2
  replace rw2 := rw2.ext y2
  refine (impl_StackSets_c ru2 rw2 (by omega) (by omega)).to ?_
  rintro _ g3 ⟨v, rfl, pv, fv, y3⟩
  refine ⟨_, rfl, _, rfl, _, rfl, _, rfl, ?_⟩
  refine newboxS fun g4 q3 y4 m4 => ?_
  have Y4 := y3.trans y4
  refine (q1.ext Y4).ldA rfl ((q2.ext Y4).ldA rfl ?_)
  refine (spec_StackSets_c (ru2.ext Y4) (rw2.ext Y4) (by omega) (by omega)).to ?_
  rintro _ g5 ⟨v', rfl, pv', fv', y5⟩
  refine ⟨_, rfl, _, rfl, _, rfl, _, rfl, ?_⟩
  refine newboxS fun g6 q4 y6 m6 => ?_
  have Y56 := y5.trans y6
  refine bif_ne (fun hq => absurd rfl hq) (fun _ => ?_)
  refine (q3.ext Y56).ldA rfl (q4.ldA rfl ?_)
  have hsm := StackSets_small0 (c := c2) (S := ts2) (d := d2) (T := us2)
  have rv6 := pv.rd.ext (y4.trans Y56)
  refine (set9_yes (c := (F_StackSets_0 c2 ts2 d2 us2).1) rv6 (pv'.rd.ext y6) (by omega)).to ?_
  rintro _ g7 ⟨rfl, y7⟩
  refine bif_not (fun hq => by simp at hq) (fun _ => ?_)
  have Y7 := Y4.trans (Y56.trans y7)
  refine (q1.ext Y7).ldA rfl ((q2.ext Y7).ldA rfl ?_)
  refine (impl_PairsOfStack_c (ru2.ext Y7) (rw2.ext Y7) (by omega) (by omega)).to ?_
  rintro _ g8 r8
  obtain ⟨z, rfl, rz, y8⟩ := r8.get
  refine ⟨_, rfl, _, rfl, _, rfl, _, rfl, ?_⟩
  have Y8 := Y7.trans y8
  refine (q1.ext Y8).ldA rfl ((q2.ext Y8).ldA rfl ?_)
  refine (spec_PairsOfStack_c (ru2.ext Y8) (rw2.ext Y8)).to ?_
  rintro _ g9 r9
  obtain ⟨z', rfl, rz', y9⟩ := r9.get
  refine ⟨_, rfl, _, rfl, _, rfl, _, rfl, ?_⟩
  refine bif_ne (fun hq => absurd rfl hq) (fun _ => ?_)
  have hpl := psL_len (c := c2) (d := d2) (S := ts2) (T := us2) (by omega) (by omega)
  refine rows9_yes (rz.ext y9) rz' (by omega) (fun l hl => by have := hpl.2 l hl; omega) ?_
  have Y9 := Y8.trans y9
  have W := (X5.trans (y1.trans y2)).trans Y9
  have tail : ∀ {g : H}, Ext g9 g → stkTail (fun v _ => ∃ b, v = AVal.bool b ∧ b = true) ⟨some h2.length, 2, 0⟩ ⟨some (h2.length + 1), 2, 0⟩ x a b (codeSp c ts d us l) g := fun {g} y =>
    stkTail_c (o1.ext (W.trans y)) (o2.ext (W.trans y)) (ru3.ext (W.trans y)) (rw3.ext (W.trans y)) hu hw (rx3.ext (W.trans y)) hl (oa.rd.ext ((x5.trans (y1.trans y2)).trans (Y9.trans y))) (ob.rd.ext ((x5.trans (y1.trans y2)).trans (Y9.trans y)))
  refine bif_eq (fun hz => ?_) (fun _ => tail (Ext.refl _))
  obtain ⟨hS, hE⟩ := stk1_ok hz
  refine bif_ne (fun hq => absurd (by unfold psK; rw [if_pos hS]) hq) (fun _ => ?_)
  have Y69 := y7.trans (y8.trans y9)
  have q39 := q3.ext (Y56.trans Y69)
  refine q39.ldA rfl ?_
  refine (IsSet_c (c := (F_StackSets_0 c2 ts2 d2 us2).1) (rv6.ext Y69) (by omega)).to ?_
  rintro bb g10 ⟨hb, y10⟩
  have hbt : bb = true := hb.2 (by rw [stk0_of hS]; exact stk_ok hS.1 hS.2 hE)
  subst hbt
  refine bif_not (fun hq => by simp at hq) (fun _ => ?_)
  have hLen := stkE_len hE
  refine isPt_in ((q39.ext y10).ldI rfl rfl ?_)
  have hzl := rz.len
  have eP : psL c2 ts2 d2 us2 = prL ts2 us2 := by unfold psL; rw [if_pos hS]
  rw [eP] at hzl
  unfold prL at hzl
  rw [List.length_map] at hzl
  refine bif_dec (fun hq => absurd hq (by rw [stk0_of hS]; omega)) (fun _ => ?_)
  refine isPt_in ((q39.ext y10).ldS rfl rfl ?_)
  refine isPt_in ((q1.ext ((Y9.trans y10))).ldS rfl rfl ?_)
  refine isPt_in ((q2.ext ((Y9.trans y10))).ldS rfl rfl ?_)
  have hv := pv.rd.tlen
  have hu2l := ru2.tlen
  have hw2l := rw2.tlen
  have h289 : ts2.length * us2.length ≤ 17 * 17 := Nat.mul_le_mul hu2 hw2
  rw [stk0_of hS] at hv
  have em : (u2.len : Int) * (w2.len : Int) = ((ts2.length * us2.length : Nat) : Int) := by rw [hu2l, hw2l]; push_cast; rfl
  refine bif_dec (fun hq => absurd hq (by rw [em, w64_of (by omega) (by omega)]; omega)) (fun _ => tail y10)
set_option maxRecDepth 100000 in
theorem law_Stacks_in (h : H) (xs : List AVal) (hl : xs.length = Tryz.f3.params.toList.length) (ha : ∀ (i : Nat) t a, Tryz.f3.params.toList[i]? = some t → xs[i]? = some a → ArgIs Tryz.prog h t a) : callB (Sat Tryz.prog) 3 xs h fun b _ => b = true := by
  rw [show Tryz.f3.params.toList.length = 1 by kernel_rfl] at hl
  match xs, hl with
  | [e0], _ =>
    obtain ⟨k0, pd0, dd0, rfl⟩ := ha 0 22 e0 (by kernel_rfl) rfl
    obtain ⟨s0, q0, rfl, r0, hq0⟩ := arg_bytes (u := 5) (by kernel_rfl) (by kernel_rfl) (by kernel_rfl) dd0
    rw [show argV Tryz.prog 22 [.sl s0] = .sl s0 by kernel_rfl]
    exact law_Stacks r0 hq0
end Go.Proofs.YtcoampecbpiecaaGreat.Cl
