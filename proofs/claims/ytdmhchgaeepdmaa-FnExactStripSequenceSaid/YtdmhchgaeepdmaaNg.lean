/- slices.Repeat of one element. No claim is stated here. -/
import Derived.Test.YtdmhchgaeepdmaaMc
set_option linter.unusedVariables false
set_option linter.unusedSimpArgs false
namespace Go.Proofs.Ytdmhchgaeepdmaa.Cl
open Go
theorem wrapU_of {n : Int} (h1 : 0 ≤ n) (h2 : n < 18446744073709551616) : IntKind.wrap .u64 n = n := by
  unfold IntKind.wrap
  simp [IntKind.bits, IntKind.signed] <;> omega
theorem andLow {x : Int} (h0 : 0 ≤ x) (h1 : x < 4294967296) : bitsOp .and .u64 x 4294967295 = x := by
  obtain ⟨n, rfl⟩ : ∃ n : Nat, x = n := ⟨x.toNat, by omega⟩
  have hn : n < 4294967296 := by omega
  have e : (BitVec.ofInt 64 (n : Int) &&& BitVec.ofInt 64 4294967295).toNat = n := by
    rw [BitVec.toNat_and, BitVec.toNat_ofInt, BitVec.toNat_ofInt]
    have a : ((n : Int) % ((2 ^ 64 : Nat) : Int)).toNat = n := by
      have : ((2 ^ 64 : Nat) : Int) = 18446744073709551616 := by decide
      omega
    have b : ((4294967295 : Int) % ((2 ^ 64 : Nat) : Int)).toNat = 2 ^ 32 - 1 := by decide
    rw [a, b, Nat.and_two_pow_sub_one_eq_mod]
    exact Nat.mod_eq_of_lt hn
  unfold bitsOp
  show IntKind.wrap .u64 (((BitVec.ofInt 64 (n : Int) &&& BitVec.ofInt 64 4294967295).toNat : Nat) : Int) = n
  rw [e]
  exact wrapU_of (by omega) (by omega)
theorem shrU {x : Int} (h0 : 0 ≤ x) (h1 : x < 4294967296) : shrI .u64 x 32 = 0 := by
  unfold shrI
  have : (2 : Int) ^ (min (32 : Int).toNat IntKind.u64.bits) = 4294967296 := by decide
  rw [this, Int.fdiv_eq_ediv_of_nonneg _ (by omega)]
  exact Int.ediv_eq_zero_of_lt h0 h1
theorem mul64_c {x y : Int} (x0 : 0 ≤ x) (x1 : x ≤ 1) (y0 : 0 ≤ y) (y1 : y < 4294967296) {h : H} {K : AVal → H → Prop} (hk : K (.tuple [.int .u64 0, .int .u64 (x * y)]) h) : callV SP i_math_bits_Mul64 [.int .u64 x, .int .u64 y] h K := by
  have hp : 0 ≤ x * y ∧ x * y < 4294967296 := by
    rcases (show x = 0 ∨ x = 1 by omega) with rfl | rfl <;> omega
  refine (show callV SP i_math_bits_Mul64 [.int .u64 x, .int .u64 y] h fun v h' => v = .tuple [.int .u64 0, .int .u64 (x * y)] ∧ h' = h from ?_).to (by rintro _ _ ⟨rfl, rfl⟩; exact hk)
  apply math_bits_Mul64_call
  unfold math_bits_Mul64_main
  rw [shrU x0 (by omega), shrU y0 y1, andLow x0 (by omega), andLow y0 y1, Int.zero_mul, Int.zero_mul, Int.mul_zero, wrapU_of (n := x * y) hp.1 (by omega), wrapU_of (n := 0) (by omega) (by omega), shrU hp.1 hp.2, Int.add_zero, wrapU_of (n := 0) (by omega) (by omega), shrU (x := 0) (by omega) (by omega), andLow (x := 0) (by omega) (by omega), Int.add_zero, wrapU_of (n := 0) (by omega) (by omega), shrU (x := 0) (by omega) (by omega), Int.add_zero, wrapU_of (n := 0) (by omega) (by omega)]
  exact ⟨by decide, by decide, by decide, by decide, by decide, rfl, rfl⟩
theorem mul_c {x y : Int} (x0 : 0 ≤ x) (x1 : x ≤ 1) (y0 : 0 ≤ y) (y1 : y < 4294967296) {h : H} {K : AVal → H → Prop} (hk : K (.tuple [.int .u64 0, .int .u64 (x * y)]) h) : callV SP i_math_bits_Mul [.int .u64 x, .int .u64 y] h K := by
  refine (show callV SP i_math_bits_Mul [.int .u64 x, .int .u64 y] h fun v h' => v = .tuple [.int .u64 0, .int .u64 (x * y)] ∧ h' = h from ?_).to (by rintro _ _ ⟨rfl, rfl⟩; exact hk)
  apply math_bits_Mul_call
  unfold math_bits_Mul_main
  refine mul64_c x0 x1 y0 y1 ?_
  exact ⟨_, rfl, _, rfl, _, rfl, _, rfl, rfl, rfl⟩
/-- A part of a view that is owned whole. -/
theorem cut_own {h : H} {s : Sl} {z : Nat} {cs : List AVal} (r : Ow h s z cs) {o : Nat} (ho : s.o = some o) {lo hi : Int} (h0 : 0 ≤ lo) (h1 : lo ≤ hi) (h2 : hi ≤ s.len) {K : Sl → Prop} (hk : K ⟨some o, s.n, lo.toNat * z, (hi - lo).toNat, z⟩) : cut s z lo hi h K := by
  obtain ⟨a, b⟩ | ⟨o', a, b, c, d, e⟩ := r.at_
  · rw [a] at ho; cases ho
  · have : o' = o := by rw [a] at ho; exact Option.some.inj ho
    subst this
    refine ⟨⟨h0, h1⟩, ?_, (fun q => by rw [a] at q; cases q), fun _ => ⟨b, ?_⟩, ?_⟩
    · unfold okS
      rw [a]
      simp only
      unfold cells
      rw [e]
      simp [r.len, d]
    · rw [c, d]
      have : hi.toNat * z ≤ s.len * z := Nat.mul_le_mul_right _ (by omega)
      omega
    · rw [a, c]; simpa using hk
theorem copy_own {h : H} {s : Sl} {cs : List AVal} (r : Ow h s 1 cs) {o : Nat} (ho : s.o = some o) {a m : Nat} (ham : a + m ≤ s.len) {x : Sl} {xs : List AVal} (hx : x.sz = 1) (hr : range h x.o x.n x.off (min x.len m * 1) = some xs) {K : Int → H → Prop}
    (hk : ∀ h', Ow h' s 1 (splice cs a xs) → But (some o) h h' → h'.length = h.length → K (min x.len m : Nat) h') : copyS ⟨some o, s.n, a, m, 1⟩ x 1 h K := by
  obtain ⟨p, q⟩ | ⟨o', p, b, c, d, e⟩ := r.at_
  · rw [p] at ho; cases ho
  · have : o' = o := by rw [p] at ho; exact Option.some.inj ho
    subst this
    have hxl := range_len hr
    have hcl := r.len
    have hol : o' < h.length := (List.getElem?_eq_some_iff.1 e).1
    have hsl : (splice cs a xs).length = cs.length := by unfold splice; simp; omega
    refine ⟨xs, h.set o' (.own (splice cs a xs)), hr, rfl, hx, ?_, hk _ ⟨by rw [hsl, hcl], .inr ⟨o', p, b, c, d, by simp [List.getElem?_set, hol]⟩⟩ ⟨by simp, fun i hi hn => by rw [List.getElem?_set, if_neg (fun e => hn (by rw [e]))]⟩ (by simp)⟩
    unfold putN owned
    simp only [e, Option.bind_some]
    rw [if_pos (by omega)]
    simp only [Option.bind_some]
    rw [if_pos (by omega)]
theorem rep_splice (v w : AVal) (i n k : Nat) (h : i + k ≤ n) : splice (List.replicate i v ++ List.replicate (n - i) w) i (List.replicate k v) = List.replicate (i + k) v ++ List.replicate (n - (i + k)) w := by
  unfold splice
  rw [List.take_left' (by simp), List.length_replicate, List.drop_append]
  simp only [List.length_replicate, List.drop_replicate]
  rw [show i - (i + k) = 0 by omega, show i + k - i = k by omega, show n - i - k = n - (i + k) by omega]
  simp [List.replicate_append_replicate]
theorem rep_take (v w : AVal) (i n k : Nat) (h : k ≤ i) : (List.replicate i v ++ List.replicate (n - i) w).take k = List.replicate k v := by
  rw [List.take_append_of_le_length (by simpa using h), List.take_replicate, Nat.min_eq_left h]
theorem ow_range {h : H} {s : Sl} {cs : List AVal} (r : Ow h s 1 cs) {o : Nat} (ho : s.o = some o) {k : Nat} (hk : k ≤ s.len) : range h (some o) s.n 0 k = some (cs.take k) := by
  obtain ⟨p, q⟩ | ⟨o', p, b, c, d, e⟩ := r.at_
  · rw [p] at ho; cases ho
  · have : o' = o := by rw [p] at ho; exact Option.some.inj ho
    subst this
    have hcl := r.len
    rw [range_of (xs := cs) (by unfold cells; simp [e, d, hcl]) (by omega)]
    simp
section
variable {h0 : H} {x : Sl} {n : Int}
theorem repeatB_c {v : Bool} (r : Rd h0 x 1 [.bool v]) (n0 : 0 ≤ n) (n1 : n ≤ 1000000) : callS SP i_slices_Repeat_s_bool_bool_ [.sl x, i64 n] h0 fun s h' => Ow h' s 1 (List.replicate n.toNat (.bool v)) ∧ Fr h0.length s ∧ Ext h0 h' := by
  have hxl : x.len = 1 := by have := r.len; simp at this; omega
  have hx : x.sz = 1 ∧ range h0 x.o x.n x.off 1 = some [.bool v] := by
    obtain a | ⟨a, _, c⟩ := r.at_
    · omega
    · exact ⟨a, by rw [hxl] at c; exact c⟩
  apply slices_Repeat_s_bool_bool__call
  unfold slices_Repeat_s_bool_bool__main
  refine bif_dec (fun f => by omega) (fun _ => ?_)
  rw [wrapU_of (n := (x.len : Int)) (by omega) (by omega), wrapU_of n0 (by omega), hxl]
  refine mul_c (by decide) (by decide) n0 (by omega) ?_
  refine ⟨_, rfl, _, rfl, _, rfl, _, rfl, ?_⟩
  rw [show ((1 : Nat) : Int) * n = n by omega]
  refine bif_dec (fun f => by omega) (fun _ => ?_)
  refine bif_dec (fun f => by omega) (fun _ => ?_)
  rw [w64_of (by omega) (by omega)]
  refine mkS_ow n0 (by unfold lim; omega) fun s h7 os ls so e7 => ?_
  have x7 : Ext h0 h7 := by rw [e7]; exact Ext.app _ _
  have os' : Ow h7 s 1 (List.replicate n.toNat (.bool false)) := by simpa using os
  obtain ⟨N, rfl⟩ : ∃ N : Nat, n = N := ⟨n.toNat, by omega⟩
  rw [Int.toNat_natCast] at *
  have hsv : s = ⟨some h0.length, s.n, 0, s.len, 1⟩ := by
    obtain ⟨a, _⟩ | ⟨o, a, b, c, d, _⟩ := os'.at_
    · rw [a] at so; cases so
    · rw [show some h0.length = s.o from so.symm, show (0 : Nat) = s.off from c.symm, show (1 : Nat) = s.sz from b.symm]
  have hmin : min x.len s.len = min 1 N := by rw [hxl, ls]
  have rep0 : List.replicate N (AVal.bool false) = List.replicate 0 (.bool v) ++ List.replicate (N - 0) (.bool false) := by simp
  have step : copyS ⟨some h0.length, s.n, 0, s.len, 1⟩ x 1 h7 fun n8 h9 => slices_Repeat_s_bool_bool__L0 SP (fun v_1 h' => ∃ b, v_1 = AVal.sl b ∧ Ow h' b 1 (List.replicate N (.bool v)) ∧ Fr h0.length b ∧ Ext h0 h') s n8 h9 := by
    refine copy_own os' so (by omega) hx.1 (xs := List.replicate (min 1 N) (.bool v)) ?_ fun h9 o9 b9 l9 => ?_
    · rw [hmin]
      have := x7.range hx.2
      by_cases hN : N = 0
      · subst hN
        have := range_sub this (a := 0) (b := 0) (by omega)
        simpa using this
      · rw [show min 1 N = 1 by omega]; exact this
    · rw [rep0, show splice _ 0 _ = _ from rep_splice _ _ 0 N (min 1 N) (by omega)] at o9
      rw [hmin, Nat.zero_add] at *
      have E9 : Ext h0 h9 := x7.but_ b9 (some_le (Nat.le_refl _))
      refine slices_Repeat_s_bool_bool__rule0 _ _ _ (fun i h => ∃ j : Nat, i = j ∧ j ≤ N ∧ (0 < N → 0 < j) ∧ Ow h s 1 (List.replicate j (.bool v) ++ List.replicate (N - j) (.bool false)) ∧ Ext h0 h) (fun i _ => (N - i).toNat) ?_ _ ⟨min 1 N, rfl, by omega, by omega, o9, E9⟩
      rintro X _ h ⟨j, rfl, hj, hp, o, e⟩ hX
      unfold slices_Repeat_s_bool_bool__b0 slices_Repeat_s_bool_bool__C0
      refine bif_dec (fun hi => ?_) (fun hi => ⟨_, rfl, ?_, (fun o' e' => by rw [so] at e'; cases e'; exact Nat.le_refl _), e⟩)
      · refine cut_own o so (by omega) (by omega) (Int.le_refl _) ?_
        refine cut_own o so (by omega) (by omega) (by omega) ?_
        simp only [Int.toNat_natCast, Nat.mul_one, Int.toNat_zero]
        rw [show ((s.len : Int) - (j : Int)).toNat = s.len - j by omega, show ((j : Int) - 0).toNat = j by omega]
        refine copy_own o so (by omega) rfl (xs := List.replicate (min j (s.len - j)) (.bool v)) ?_ fun h3 o3 b3 l3 => ?_
        · simp only [Nat.mul_one]
          rw [ow_range o so (by omega), rep_take _ _ _ _ _ (by omega)]
        · rw [rep_splice _ _ j N _ (by omega)] at o3
          simp only
          rw [w64_of (by omega) (by omega)]
          refine hX _ _ ⟨j + min j (s.len - j), by push_cast; rfl, by omega, fun _ => by omega, o3, e.but_ b3 (some_le (Nat.le_refl _))⟩ (by omega)
      · have : j = N := by omega
        subst this
        simpa using o
  rw [← hsv] at step
  exact step
theorem repeatI_c {v : Int} (r : Rd h0 x 1 [i64 v]) (n0 : 0 ≤ n) (n1 : n ≤ 1000000) : callS SP i_slices_Repeat_s_int64_int64_ [.sl x, i64 n] h0 fun s h' => Ow h' s 1 (List.replicate n.toNat (i64 v)) ∧ Fr h0.length s ∧ Ext h0 h' := by
  have hxl : x.len = 1 := by have := r.len; simp at this; omega
  have hx : x.sz = 1 ∧ range h0 x.o x.n x.off 1 = some [i64 v] := by
    obtain a | ⟨a, _, c⟩ := r.at_
    · omega
    · exact ⟨a, by rw [hxl] at c; exact c⟩
  apply slices_Repeat_s_int64_int64__call
  unfold slices_Repeat_s_int64_int64__main
  refine bif_dec (fun f => by omega) (fun _ => ?_)
  rw [wrapU_of (n := (x.len : Int)) (by omega) (by omega), wrapU_of n0 (by omega), hxl]
  refine mul_c (by decide) (by decide) n0 (by omega) ?_
  refine ⟨_, rfl, _, rfl, _, rfl, _, rfl, ?_⟩
  rw [show ((1 : Nat) : Int) * n = n by omega]
  refine bif_dec (fun f => by omega) (fun _ => ?_)
  refine bif_dec (fun f => by omega) (fun _ => ?_)
  rw [w64_of (by omega) (by omega)]
  refine mkS_ow n0 (by unfold lim; omega) fun s h7 os ls so e7 => ?_
  have x7 : Ext h0 h7 := by rw [e7]; exact Ext.app _ _
  have os' : Ow h7 s 1 (List.replicate n.toNat (i64 0)) := by simpa using os
  obtain ⟨N, rfl⟩ : ∃ N : Nat, n = N := ⟨n.toNat, by omega⟩
  rw [Int.toNat_natCast] at *
  have hsv : s = ⟨some h0.length, s.n, 0, s.len, 1⟩ := by
    obtain ⟨a, _⟩ | ⟨o, a, b, c, d, _⟩ := os'.at_
    · rw [a] at so; cases so
    · rw [show some h0.length = s.o from so.symm, show (0 : Nat) = s.off from c.symm, show (1 : Nat) = s.sz from b.symm]
  have hmin : min x.len s.len = min 1 N := by rw [hxl, ls]
  have rep0 : List.replicate N (i64 0) = List.replicate 0 (i64 v) ++ List.replicate (N - 0) (i64 0) := by simp
  have step : copyS ⟨some h0.length, s.n, 0, s.len, 1⟩ x 1 h7 fun n8 h9 => slices_Repeat_s_int64_int64__L0 SP (fun v_1 h' => ∃ b, v_1 = AVal.sl b ∧ Ow h' b 1 (List.replicate N (i64 v)) ∧ Fr h0.length b ∧ Ext h0 h') s n8 h9 := by
    refine copy_own os' so (by omega) hx.1 (xs := List.replicate (min 1 N) (i64 v)) ?_ fun h9 o9 b9 l9 => ?_
    · rw [hmin]
      have := x7.range hx.2
      by_cases hN : N = 0
      · subst hN
        have := range_sub this (a := 0) (b := 0) (by omega)
        simpa using this
      · rw [show min 1 N = 1 by omega]; exact this
    · rw [rep0, show splice _ 0 _ = _ from rep_splice _ _ 0 N (min 1 N) (by omega)] at o9
      rw [hmin, Nat.zero_add] at *
      have E9 : Ext h0 h9 := x7.but_ b9 (some_le (Nat.le_refl _))
      refine slices_Repeat_s_int64_int64__rule0 _ _ _ (fun i h => ∃ j : Nat, i = j ∧ j ≤ N ∧ (0 < N → 0 < j) ∧ Ow h s 1 (List.replicate j (i64 v) ++ List.replicate (N - j) (i64 0)) ∧ Ext h0 h) (fun i _ => (N - i).toNat) ?_ _ ⟨min 1 N, rfl, by omega, by omega, o9, E9⟩
      rintro X _ h ⟨j, rfl, hj, hp, o, e⟩ hX
      unfold slices_Repeat_s_int64_int64__b0 slices_Repeat_s_int64_int64__C0
      refine bif_dec (fun hi => ?_) (fun hi => ⟨_, rfl, ?_, (fun o' e' => by rw [so] at e'; cases e'; exact Nat.le_refl _), e⟩)
      · refine cut_own o so (by omega) (by omega) (Int.le_refl _) ?_
        refine cut_own o so (by omega) (by omega) (by omega) ?_
        simp only [Int.toNat_natCast, Nat.mul_one, Int.toNat_zero]
        rw [show ((s.len : Int) - (j : Int)).toNat = s.len - j by omega, show ((j : Int) - 0).toNat = j by omega]
        refine copy_own o so (by omega) rfl (xs := List.replicate (min j (s.len - j)) (i64 v)) ?_ fun h3 o3 b3 l3 => ?_
        · simp only [Nat.mul_one]
          rw [ow_range o so (by omega), rep_take _ _ _ _ _ (by omega)]
        · rw [rep_splice _ _ j N _ (by omega)] at o3
          simp only
          rw [w64_of (by omega) (by omega)]
          refine hX _ _ ⟨j + min j (s.len - j), by push_cast; rfl, by omega, fun _ => by omega, o3, e.but_ b3 (some_le (Nat.le_refl _))⟩ (by omega)
      · have : j = N := by omega
        subst this
        simpa using o
  rw [← hsv] at step
  exact step
end
end Go.Proofs.Ytdmhchgaeepdmaa.Cl
