/- The clean machine: slices. No claim is stated here. -/
import Derived.Test.YtdmhchgaeepdmaaClD
set_option linter.unusedVariables false
set_option linter.unusedSimpArgs false
namespace Go.Proofs.Ytdmhchgaeepdmaa.Cl
open Go
section
variable {P : Program} {T : Tab} {μ : Mu} {h : H} {w : World}

theorem newSl_SR {len cap z size : Nat} (hle : len ≤ cap) (hz : 0 < z) (hsize : cap * z ≤ size) {x : List AVal} (hx : x.length = len * z) :
    SR (μ.upd h.length ⟨w.heap.size, 0, size⟩) (h ++ [.own x]) ⟨some h.length, len * z, 0, len, z⟩ (.slice (some ⟨w.heap.size, 0, none⟩) len cap) := by
  refine ⟨by unfold inf; simp, hz, _, _, rfl, hle, fun t m e => ?_⟩
  unfold inf at e
  simp at e
  obtain ⟨rfl, rfl⟩ := e
  have := Nat.mul_le_mul_right z hle
  refine ⟨by simp; omega, fun _ => ⟨by simpa using this, by simp, .inr (.inr ?_), fun _ => ?_⟩⟩
  · rw [upd_self]; rfl
  · rw [upd_self]; simpa using hsize
theorem buildSlice_sound (r : Rel μ h w) (hT : TOK P T) {fr : Frame} {a : Act} (hf : VRs μ h fr a.tmps.toList) (hev : ∀ x, VR μ h (ev fr x) (a.eval x)) {t n e : Nat} {ps : Array (Nat × Operand)} {K : Sl → H → Prop}
    (hd : (tget T t).d = .sl e)
    (H : (bif decide (0 < (tget T e).size) && decide (n * (tget T e).size ≤ 10000) then fillK T (fun i => some (i * (tget T e).size, e)) (n * (tget T e).size) (parts ps fr) (List.replicate n (tget T e).zero).flatten fun cs => newS n (tget T e).size cs h K else False)) :
    ∃ x w' h' μ' s, (Instr.buildSlice t n (ps.map fun (p : Nat × Operand) => (p.1, a.eval p.2))).run P w = .ok x w' ∧ K s h' ∧ Tr μ h w μ' h' w' ∧ SR μ' h' s x := by
  obtain ⟨th⟩ := hT.told t (by rw [hd]; simp)
  have hu := tdOf_sl (P := P) (d := th.d) (by rw [← th.td, hd])
  have hdd := th.hd
  rw [hu] at hdd
  obtain ⟨hl, hp⟩ := parts_spec (a := a) hf hev ps
  cases hb : (decide (0 < (tget T e).size) && decide (n * (tget T e).size ≤ 10000)) with
  | false => rw [hb] at H; exact H.elim
  | true =>
    rw [hb] at H
    simp only [cond_true] at H
    rw [Bool.and_eq_true] at hb
    have h0 : 0 < (tget T e).size := by simpa using hb.1
    have h1 : n * (tget T e).size ≤ 10000 := by simpa using hb.2
    obtain ⟨te⟩ := hT.toldS e h0
    obtain ⟨cs, c', k1, k2, k3, k4, k5⟩ := fill_sound (P := P) r (pl' := fun i => some (i * te.i.size, te.i.size)) hT (fun i off t' he hne => by
        simp at he
        obtain ⟨rfl, rfl⟩ := he
        simp [te.size]) _ _ _ _ _ hl hp (zeros_VRs te h0 n) (all_rep (all_zero te) n) (by rw [flatten_rep_length, zero_len te]) H
    unfold newS at k2
    have hcsz : c'.size = n * (tget T e).size := by rw [← k5, ← k3.len]; simp
    refine ⟨_, _, _, _, _, ?_, k2, Tr.new r cs c' e c'.toList k3 k4 ⟨[], by simp⟩, newSl_SR (Nat.le_refl n) h0 (by omega) k5⟩
    unfold Instr.buildSlice
    simp only [Sem.run_bind, run_underlying hdd, Result.andThen_ok, run_sizeOf te.hi]
    rw [if_neg (by rw [← te.size]; omega)]
    rw [te.size] at k1
    by_cases hn : n * te.i.size = 0
    · rw [if_pos hn]
      have hq : ((Array.range (n * te.i.size)).map ((#[] : Array Value)[· % (#[] : Array Value).size]!)) = ((Array.range (n * te.i.size)).map (te.z.cells[· % te.z.cells.size]!)) := by rw [hn]; simp
      simp only [Sem.run_bind, Sem.run_pure, Result.andThen_ok, hq, k1, run_newRow]
    · rw [if_neg hn]
      simp only [Sem.run_bind, Sem.run_pure, Result.andThen_ok, run_zero te, k1, run_newRow]
theorem wrap_in {n : Int} (h0 : -9223372036854775808 ≤ n) (h1 : n ≤ 9223372036854775807) : IntKind.i64.wrap n = n := by
  show (if (true && decide (n % 18446744073709551616 ≥ 9223372036854775808)) = true then n % 18446744073709551616 - 18446744073709551616 else n % 18446744073709551616) = n
  rw [Bool.true_and]
  by_cases hc : n % 18446744073709551616 ≥ 9223372036854775808
  · rw [if_pos (by simpa using hc)]; omega
  · rw [if_neg (by simpa using hc)]; omega
theorem makeSlice_sound (r : Rel μ h w) (hT : TOK P T) {t e : Nat} {n : Int} {k k' : IntKind} {K : Sl → H → Prop} (hd : (tget T t).d = .sl e)
    (hb : (tget T e).bytes ≤ 256) (h0 : 0 < (tget T e).size) (H : mkS n (tget T e).zero h K) :
    ∃ x w' h' μ' s, (Instr.makeSlice t (.int k n) (.int k' n)).run P w = .ok x w' ∧ K s h' ∧ Tr μ h w μ' h' w' ∧ SR μ' h' s x := by
  obtain ⟨th⟩ := hT.told t (by rw [hd]; simp)
  have hu := tdOf_sl (P := P) (d := th.d) (by rw [← th.td, hd])
  have hdd := th.hd
  rw [hu] at hdd
  obtain ⟨te⟩ := hT.toldS e h0
  obtain ⟨⟨hn0, hn1⟩, hK⟩ := H
  unfold lim at hn1
  have hzl := zero_len te
  have hzs : te.z.cells.size = (tget T e).size := by rw [te.zsize, te.size]
  have hlen : (List.replicate n.toNat (tget T e).zero).flatten.length = n.toNat * (tget T e).size := by rw [flatten_rep_length, hzl]
  refine ⟨_, _, _, _, _, ?_, hK, Tr.new r _ ((Array.range (n.toNat * (tget T e).size)).map (te.z.cells[· % te.z.cells.size]!)) e _ (zeros_VRs te h0 n.toNat) (all_rep (all_zero te) _) ⟨[], by simp⟩,
    by rw [hzl]; exact newSl_SR (Nat.le_refl _) h0 (by simp) hlen⟩
  unfold Instr.makeSlice
  have hw : IntKind.i64.wrap n = n := wrap_in (by omega) (by omega)
  have hinfo : (typeInfo e).run P w = .ok te.i w := by simp [typeInfo, te.hi]
  have hbt : (te.i.bytes : Int) * n ≤ 2 ^ 48 := by
    have : (te.i.bytes : Int) ≤ 256 := by rw [← te.bytes]; omega
    calc (te.i.bytes : Int) * n ≤ 256 * n := Int.mul_le_mul_of_nonneg_right this hn0
      _ ≤ 2 ^ 48 := by omega
  simp only [Sem.run_bind, run_underlying hdd, Result.andThen_ok, asInt, asIntOf, Sem.run_pure, hinfo, hw]
  have hcond : (decide (n < 0) || decide ((te.i.bytes : Int) * n > 2 ^ 48) || decide (n < 0) || decide (n > n)) = false := by
    simp; omega
  have hroom : (askRoom (n.toNat * te.i.bytes)).run P w = .ok () w := by unfold askRoom; split <;> rfl
  rw [if_neg (by simpa using hcond)]
  simp only [Sem.run_bind, hroom, Result.andThen_ok, run_sizeOf te.hi]
  by_cases hn : n.toNat * te.i.size = 0
  · rw [if_pos hn]
    have hq : ((Array.range (n.toNat * te.i.size)).map ((#[] : Array Value)[· % (#[] : Array Value).size]!)) = ((Array.range (n.toNat * te.i.size)).map (te.z.cells[· % te.z.cells.size]!)) := by rw [hn]; simp
    simp only [Sem.run_bind, Sem.run_pure, Result.andThen_ok, hq, run_newRow, te.size]
  · rw [if_neg hn]
    simp only [Sem.run_bind, Sem.run_pure, Result.andThen_ok, run_zero te, run_newRow, te.size]

/-! ### places in slices and arrays -/
theorem ixS_sound {s : Sl} {x : Value} (hs : SR μ h s x) (hT : TOK P T) {t e : Nat} {k : IntKind} {n : Int} {K : Pt → Prop} (hd : (tget T t).d = .sl e) (H : ixS s (tget T e).size n K) :
    ∃ p y, (Instr.indexAt t x (.int k n)).run P w = .ok y w ∧ K p ∧ PR μ h p y := by
  obtain ⟨th⟩ := hT.told t (by rw [hd]; simp)
  have hu := tdOf_sl (P := P) (d := th.d) (by rw [← th.td, hd])
  have hdd := th.hd
  rw [hu] at hdd
  obtain ⟨⟨h0, h1⟩, hz, ho, hK⟩ := H
  unfold SR at hs
  cases hso : s.o with
  | none => rw [hso] at ho; cases ho
  | some o =>
    rw [hso] at hs
    obtain ⟨hol, hz0, a, cap, rfl, hle, hv⟩ := hs
    obtain ⟨te⟩ := hT.toldS e (by omega)
    refine ⟨_, .pointer (some (a.add (n.toNat * te.i.size))), ?_, hK, ?_⟩
    · unfold Instr.indexAt
      simp only [Sem.run_bind, asIntOf, Sem.run_pure, Result.andThen_ok, run_underlying hdd, run_sizeOf te.hi]
      rw [if_pos ⟨h0, h1⟩]
      simp only [Sem.run_bind, Sem.run_pure, Result.andThen_ok, run_sizeOf te.hi]
    · rw [hso]
      refine ⟨hol, _, rfl, fun t m e => ?_⟩
      obtain ⟨k1, k2⟩ := hv t m e
      refine ⟨k1, fun hm => ?_⟩
      obtain ⟨k3, k4, k5, k6⟩ := k2 hm
      rcases k5 with ⟨k5, _⟩ | k5 | k5
      · exfalso
        have : 0 < s.len * s.sz := Nat.mul_pos (by omega) hz0
        omega
      · omega
      · rw [k5, place_add, te.size]
theorem ixA_sound {p : Pt} {x : Value} (hs : PR μ h p x) (hT : TOK P T) {t e len : Nat} {k : IntKind} {n : Int} {K : Pt → Prop} (hd : (tget T t).d = .arr len e) (he : 0 < (tget T e).size) (H : ixA p len (tget T e).size n K) :
    ∃ q y, (Instr.indexAt t x (.int k n)).run P w = .ok y w ∧ K q ∧ PR μ h q y := by
  obtain ⟨th⟩ := hT.told t (by rw [hd]; simp)
  have hu := tdOf_arr (P := P) (d := th.d) (by rw [← th.td, hd])
  have hdd := th.hd
  rw [hu] at hdd
  obtain ⟨⟨h0, h1⟩, ho, hK⟩ := H
  unfold PR at hs
  cases hso : p.o with
  | none => rw [hso] at ho; cases ho
  | some o =>
    rw [hso] at hs
    obtain ⟨hol, a, rfl, hv⟩ := hs
    obtain ⟨te⟩ := hT.toldS e he
    refine ⟨_, .pointer (some (a.add (n.toNat * te.i.size))), ?_, hK, ?_⟩
    · unfold Instr.indexAt
      simp only [Sem.run_bind, asIntOf, Sem.run_pure, Result.andThen_ok, run_underlying hdd, Instr.sureAddr]
      rw [if_pos ⟨h0, h1⟩]
      simp only [Sem.run_bind, Sem.run_pure, Result.andThen_ok, run_sizeOf te.hi]
    · unfold PR Pt.add
      simp only [hso]
      refine ⟨hol, _, rfl, fun t m e => ?_⟩
      obtain ⟨k1, k2⟩ := hv t m e
      exact ⟨k1, fun hm => by rw [k2 hm, place_add, te.size]⟩
theorem fieldAt_sound {p : Pt} {x : Value} (hs : PR μ h p x) (hT : TOK P T) {t f off u : Nat} {fs : List (Nat × Nat)} (hd : (tget T t).d = .struct fs) (hf : fs[f]? = some (off, u)) (ho : p.o.isSome = true) :
    ∃ y, (Instr.fieldAt t x f).run P w = .ok y w ∧ PR μ h (p.add off) y := by
  obtain ⟨th⟩ := hT.told t (by rw [hd]; simp)
  obtain ⟨fs', hu, rfl, hfs⟩ := tdOf_struct (P := P) (d := th.d) (by rw [← th.td, hd])
  have hdd := th.hd
  rw [hu] at hdd
  unfold PR at hs
  cases hso : p.o with
  | none => rw [hso] at ho; cases ho
  | some o =>
    rw [hso] at hs
    obtain ⟨hol, a, rfl, hv⟩ := hs
    rw [List.getElem?_map] at hf
    cases hq : fs'.toList[f]? with
    | none => rw [hq] at hf; cases hf
    | some g =>
      rw [hq] at hf
      simp at hf
      obtain ⟨rfl, rfl⟩ := hf
      obtain ⟨i, hi, hi0⟩ := hfs g (List.mem_of_getElem? hq)
      rw [Array.getElem?_toList] at hq
      refine ⟨.pointer (some (a.add g.offset)), ?_, ?_⟩
      · unfold Instr.fieldAt
        simp only [Sem.run_bind, run_underlying hdd, Result.andThen_ok, hq, Instr.sureAddr, Sem.run_pure, fieldPlace, run_sizeOf hi]
        rw [if_neg hi0]
        simp
      · unfold PR Pt.add
        simp only [hso]
        refine ⟨hol, _, rfl, fun t m e => ?_⟩
        obtain ⟨k1, k2⟩ := hv t m e
        exact ⟨k1, fun hm => by rw [k2 hm, place_add]⟩

/-! ### cuts -/
theorem run_sliceBound {k : IntKind} {i : Int} {y : Nat} {c : BoundsCode} (h0 : 0 ≤ i) (h1 : i ≤ y) : (Instr.sliceBound (.int k i) y c).run P w = .ok i.toNat w := by
  unfold Instr.sliceBound
  simp only [Sem.run_bind, asIntOf, Sem.run_pure, Result.andThen_ok]
  rw [if_pos ⟨h0, h1⟩]
  rfl
/-- A bound is told, or it is what it is without. -/
inductive Bound : Option Value → Int → Int → Prop where
  | told (k : IntKind) (n z : Int) : Bound (some (.int k n)) z n
  | none (z : Int) : Bound none z z
theorem run_sliceBounds {sl : Bool} {len cap : Nat} {lo hi : Option Value} {a b : Int} (hlo : Bound lo 0 a) (hhi : Bound hi len b) (h0 : 0 ≤ a) (h1 : a ≤ b) (h2 : b ≤ cap) :
    (Instr.sliceBounds sl len cap lo hi none).run P w = .ok (a.toNat, b.toNat, cap) w := by
  unfold Instr.sliceBounds
  cases hlo <;> cases hhi <;> simp only [Sem.run_bind, Sem.run_pure, Result.andThen_ok]
  · rw [run_sliceBound (by omega) h2, Result.andThen_ok, run_sliceBound h0 (by omega)]; rfl
  · rw [run_sliceBound h0 (by omega)]; simp
  · rw [run_sliceBound (by omega) h2]; simp
  · simp
theorem cut_sound {s : Sl} {x : Value} (hs : SR μ h s x) (hT : TOK P T) {t e : Nat} {lo hi : Option Value} {a b : Int} {K : Sl → Prop} (hd : (tget T t).d = .sl e) (he : 0 < (tget T e).size)
    (hlo : Bound lo 0 a) (hhi : Bound hi s.len b) (H : cut s (tget T e).size a b h K) :
    ∃ y s', (Instr.sliceAt t x lo hi none).run P w = .ok y w ∧ K s' ∧ SR μ h s' y := by
  obtain ⟨th⟩ := hT.told t (by rw [hd]; simp)
  have hu := tdOf_sl (P := P) (d := th.d) (by rw [← th.td, hd])
  have hdd := th.hd
  rw [hu] at hdd
  obtain ⟨te⟩ := hT.toldS e he
  obtain ⟨⟨h0, h1⟩, hok, hn, hsm, hK⟩ := H
  unfold SR at hs
  cases hso : s.o with
  | none =>
    rw [hso] at hs
    obtain ⟨hl, rfl⟩ := hs
    have hb : b = 0 := hn hso
    refine ⟨.slice (if (0 : Nat) = a.toNat then none else (none : Option Addr).map (·.add (a.toNat * te.i.size))) (b.toNat - a.toNat) (0 - a.toNat), _, ?_, hK, ?_⟩
    · unfold Instr.sliceAt Instr.slice
      rw [hl] at hhi
      have hrun := run_sliceBounds (P := P) (w := w) (sl := true) (len := 0) (cap := 0) hlo hhi h0 h1 (by omega)
      simp only [Sem.run_bind, run_underlying hdd, Result.andThen_ok, hrun, run_sizeOf te.hi, Sem.run_pure]
    · rw [hso]
      refine ⟨by simp; omega, ?_⟩
      have : a.toNat = 0 := by omega
      have : b.toNat = 0 := by omega
      simp_all
  | some o =>
    rw [hso] at hs
    obtain ⟨hol, hz0, ad, cap, rfl, hle, hv⟩ := hs
    obtain ⟨hz, hbn⟩ := hsm (by rw [hso]; simp)
    unfold okS at hok
    simp only [hso, Option.isSome_iff_exists] at hok
    obtain ⟨cs, hcs⟩ := hok
    obtain ⟨⟨t', ht', _⟩, _⟩ := cells_inf hcs
    obtain ⟨_, k2⟩ := hv t' s.n ht'
    obtain ⟨k3, k4, k5, k6⟩ := k2 rfl
    have hbc : b.toNat ≤ cap := by
      rw [hz] at k3
      have : b.toNat * (tget T e).size ≤ cap * (tget T e).size := by omega
      exact Nat.le_of_mul_le_mul_right this he
    refine ⟨.slice (if cap = a.toNat then some ad else (some ad).map (·.add (a.toNat * te.i.size))) (b.toNat - a.toNat) (cap - a.toNat), _, ?_, hK, ?_⟩
    · unfold Instr.sliceAt Instr.slice
      have hrun := run_sliceBounds (P := P) (w := w) (sl := true) (len := s.len) (cap := cap) hlo hhi h0 h1 (by omega)
      simp only [Sem.run_bind, run_underlying hdd, Result.andThen_ok, hrun, run_sizeOf te.hi, Sem.run_pure]
    · rw [hso]
      refine ⟨hol, he, (if cap = a.toNat then ad else ad.add (a.toNat * te.i.size)), cap - a.toNat, ?_, by simp; omega, fun t m e1 => ?_⟩
      · simp only [Option.map_some]
        congr 1
        · split <;> rfl
        · omega
      · obtain ⟨k1, k2⟩ := hv t m e1
        refine ⟨k1, fun hm => ?_⟩
        obtain ⟨k3, k4, k5, k6⟩ := k2 hm
        rw [hz] at k3 k6
        have ha : a.toNat ≤ b.toNat := by omega
        have e2 : (cap - a.toNat) * (tget T e).size = cap * (tget T e).size - a.toNat * (tget T e).size := Nat.sub_mul _ _ _
        have e3 : a.toNat * (tget T e).size ≤ cap * (tget T e).size := Nat.mul_le_mul_right _ (by omega)
        have e4 : (b - a).toNat * (tget T e).size = b.toNat * (tget T e).size - a.toNat * (tget T e).size := by
          rw [← Nat.sub_mul]; congr 1; omega
        have e5 : a.toNat * (tget T e).size ≤ b.toNat * (tget T e).size := Nat.mul_le_mul_right _ ha
        refine ⟨by simp only; omega, by simp only; omega, ?_, fun ht => ?_⟩
        · rcases k5 with k5 | k5 | k5
          · exact .inl k5
          · exact .inr (.inl (by omega))
          · by_cases hc : cap = a.toNat
            · exact .inr (.inl (by omega))
            · rw [if_neg hc, k5, place_add, te.size]
              exact .inr (.inr rfl)
        · have := k6 ht
          simp only
          omega
theorem cutA_sound (r : Rel μ h w) {p : Pt} {x : Value} (hs : PR μ h p x) (hT : TOK P T) {t e n : Nat} {lo hi : Option Value} {a b : Int} {K : Sl → Prop} (hd : (tget T t).d = .arr n e) (he : 0 < (tget T e).size)
    (hlo : Bound lo 0 a) (hhi : Bound hi n b) (H : cutA p n (tget T e).size a b K) :
    ∃ y s', (Instr.sliceAt t x lo hi none).run P w = .ok y w ∧ K s' ∧ SR μ h s' y := by
  obtain ⟨th⟩ := hT.told t (by rw [hd]; simp)
  have hu := tdOf_arr (P := P) (d := th.d) (by rw [← th.td, hd])
  have hdd := th.hd
  rw [hu] at hdd
  obtain ⟨te⟩ := hT.toldS e he
  obtain ⟨⟨h0, h1, h2⟩, ho, hpn, hK⟩ := H
  unfold PR at hs
  cases hso : p.o with
  | none => rw [hso] at ho; cases ho
  | some o =>
    rw [hso] at hs
    obtain ⟨hol, ad, rfl, hv⟩ := hs
    refine ⟨.slice (some (if n = a.toNat then ad else ad.add (a.toNat * te.i.size))) (b.toNat - a.toNat) (n - a.toNat), _, ?_, hK, ?_⟩
    · unfold Instr.sliceAt
      have hrun := run_sliceBounds (P := P) (w := w) (sl := false) (len := n) (cap := n) hlo hhi h0 h1 h2
      simp only [Sem.run_bind, run_underlying hdd, Result.andThen_ok, Instr.sureAddr, hrun, run_sizeOf te.hi, Sem.run_pure]
    · rw [hso]
      refine ⟨hol, he, (if n = a.toNat then ad else ad.add (a.toNat * te.i.size)), n - a.toNat, ?_, by simp; omega, fun t m e1 => ?_⟩
      · congr 1
        show b.toNat - a.toNat = (b - a).toNat
        omega
      · obtain ⟨k1, k2⟩ := hv t m e1
        refine ⟨k1, fun hm => ?_⟩
        have k5 := k2 hm
        have ha : a.toNat ≤ b.toNat := by omega
        have e2 : (n - a.toNat) * (tget T e).size = n * (tget T e).size - a.toNat * (tget T e).size := Nat.sub_mul _ _ _
        have e3 : a.toNat * (tget T e).size ≤ n * (tget T e).size := Nat.mul_le_mul_right _ (by omega)
        have e4 : (b - a).toNat * (tget T e).size = b.toNat * (tget T e).size - a.toNat * (tget T e).size := by
          rw [← Nat.sub_mul]; congr 1; omega
        have e5 : a.toNat * (tget T e).size ≤ b.toNat * (tget T e).size := Nat.mul_le_mul_right _ ha
        have e6 : b.toNat * (tget T e).size ≤ n * (tget T e).size := Nat.mul_le_mul_right _ (by omega)
        refine ⟨by simp only; omega, by simp only; omega, ?_, fun ht => ?_⟩
        · by_cases hc : n = a.toNat
          · exact .inr (.inl (by omega))
          · rw [if_neg hc, k5, place_add, te.size]
            exact .inr (.inr rfl)
        · subst ht
          unfold inf at e1
          split at e1 <;> simp at e1
          next cs hx =>
            obtain ⟨_, q, _⟩ := r.own o cs hx
            simp only
            omega

/-! ### append, copy, clear -/
theorem sread_spec (r : Rel μ h w) {s : Sl} {x : Value} (hs : SR μ h s x) {cs : List AVal} (e : sread h s = some cs) {z : Nat} (hz : s.len ≠ 0 → s.sz = z) :
    ∃ ds : List Value, VRs μ h cs ds ∧ cs.all AVal.isCell = true ∧ ds.length = s.len * z ∧ (Builtin.firstCells z s.len x).run P w = .ok ds.toArray w ∧ (Builtin.lenOf x).run P w = .ok s.len w := by
  unfold SR at hs
  cases hso : s.o with
  | none =>
    rw [hso] at hs
    obtain ⟨hl, rfl⟩ := hs
    unfold sread at e
    rw [hl] at e
    simp at e
    subst e
    exact ⟨[], VRs.nil, rfl, by simp [hl], by simp [Builtin.firstCells], by simp [Builtin.lenOf, hl]⟩
  | some o =>
    rw [hso] at hs
    obtain ⟨hol, hz0, a, cap, rfl, hle, hv⟩ := hs
    by_cases hl : s.len = 0
    · unfold sread at e
      rw [hl] at e
      simp at e
      subst e
      refine ⟨[], VRs.nil, rfl, by simp [hl], ?_, by simp [Builtin.lenOf]⟩
      have := run_loadCells_list (P := P) w a [] (by simp)
      simp only [Builtin.firstCells, hl, Nat.zero_mul]
      exact this
    · have hz' := hz hl
      unfold sread at e
      rw [if_neg (by rw [Nat.mul_eq_zero]; omega), hso] at e
      obtain ⟨⟨t, ht, _⟩, h1, h2, h3, ds, h4, h5, h6⟩ := r.range e
      obtain ⟨k1, k2⟩ := hv t _ ht
      obtain ⟨k3, k4, k5, k6⟩ := k2 rfl
      have hpos : 0 < s.len * s.sz := Nat.mul_pos (by omega) hz0
      have ha : a = place (μ o) s.off := by
        rcases k5 with ⟨k5, _⟩ | k5 | k5
        · omega
        · omega
        · exact k5
      refine ⟨ds, h5, h3, by rw [h4, hz'], ?_, by simp [Builtin.lenOf]⟩
      have := run_loadCells_list (P := P) w a ds (fun j v hj => by rw [ha, place_add]; exact h6 j v hj)
      simp only [Builtin.firstCells]
      rw [h4, hz'] at this
      exact this
theorem newSl_SR' {len cap z size : Nat} (hle : len ≤ cap) (hz : 0 < z) (hsize : cap * z ≤ size) {x : List AVal} (hx : x.length = len * z) {o : Nat} (ho : o < h.length) :
    SR (μ.upd o ⟨w.heap.size, 0, size⟩) (h.set o (.own x)) ⟨some o, len * z, 0, len, z⟩ (.slice (some ⟨w.heap.size, 0, none⟩) len cap) := by
  refine ⟨by rw [inf_set, if_pos ⟨rfl, ho⟩]; rfl, hz, _, _, rfl, hle, fun t m e => ?_⟩
  rw [inf_set, if_pos ⟨rfl, ho⟩] at e
  simp at e
  obtain ⟨rfl, rfl⟩ := e
  have := Nat.mul_le_mul_right z hle
  refine ⟨by simp; omega, fun _ => ⟨by simpa using this, by simp, .inr (.inr ?_), fun _ => ?_⟩⟩
  · rw [upd_self]; rfl
  · rw [upd_self]; simpa using hsize
theorem zeroCells_size (z : Array Value) (n : Nat) : (Builtin.zeroCells z n).size = n * z.size := by simp [Builtin.zeroCells]
theorem growBy_le (newLen : Nat) : ∀ (k c : Nat), c ≤ 2 * newLen + 1024 → Builtin.growBy newLen k c ≤ 2 * newLen + 1024
  | 0, c, h => h
  | k + 1, c, h => by
    unfold Builtin.growBy
    split
    · exact h
    · exact growBy_le newLen k _ (by omega)
theorem nextcap_le (need cap : Nat) (h : cap < need) : Builtin.nextslicecap need cap ≤ 2 * need + 1024 := by
  unfold Builtin.nextslicecap
  split
  · omega
  · split
    · omega
    · exact growBy_le _ _ _ (by omega)
theorem run_askRoom (n : Nat) : (askRoom n).run P w = .ok () w := by unfold askRoom; split <;> rfl
/-- What 'append' does where the slice has not the room. -/
theorem run_append_grow {t tx ty e : Nat} {ex : Nat} (hdd : P.underlying t = some (.slice e)) (hdx : P.underlying tx = some (.slice ex)) (te : Told P T e) (hb : (tget T e).bytes ≤ 256) (hb0 : 0 < (tget T e).bytes)
    {base : Option Addr} {len cap m : Nat} {x : Value} {olds news : List Value} (hcap : cap < len + m) (hlim : ((len + m : Nat) : Int) ≤ lim)
    (hlen : ∀ w : World, (Builtin.lenOf x).run P w = .ok m w) (hold : (Builtin.firstCells te.i.size len (.slice base len cap)).run P w.drew = .ok olds.toArray w.drew)
    (hnew : (Builtin.firstCells te.i.size m x).run P w.drew = .ok news.toArray w.drew) :
    ∃ newCap, len + m ≤ newCap ∧ (Builtin.append_ #[t, tx] ty #[.slice base len cap, x]).run P w =
      .ok (.slice (some ⟨w.heap.size, 0, none⟩) (len + m) newCap) (w.drew.alloc (.cells (olds.toArray ++ news.toArray ++ Builtin.zeroCells te.z.cells (newCap - (len + m))) e)) := by
  unfold lim at hlim
  refine ⟨(len + m) + w.tape w.drawn (.appendCap (len + m) cap e) % (2 ^ 63 - (len + m)), by omega, ?_⟩
  have hinfo : ∀ w : World, (typeInfo e).run P w = .ok te.i w := fun w => by simp [typeInfo, te.hi]
  have hnc := nextcap_le (len + m) cap hcap
  have hbytes : Builtin.nextslicecap (len + m) cap * te.i.bytes ≤ 2 ^ 48 := by
    have : te.i.bytes ≤ 256 := by rw [← te.bytes]; exact hb
    calc _ ≤ (2 * (len + m) + 1024) * 256 := Nat.mul_le_mul hnc this
      _ ≤ 2 ^ 48 := by omega
  unfold Builtin.append_
  simp only [List.getElem?_toArray, List.getElem?_cons_zero, List.getElem?_cons_succ, Sem.run_bind, run_underlying hdd, run_underlying hdx, Result.andThen_ok, run_sizeOf te.hi, Sem.run_pure, Bool.false_eq_true, if_false, hlen]
  rw [if_neg (by omega)]
  simp only [Sem.run_bind, Result.andThen_ok, hinfo, Sem.run_pure, or_false, false_or, Bool.not_false, if_true]
  have hb1 : te.i.bytes ≠ 0 := by rw [← te.bytes]; omega
  rw [if_neg (fun hh => hb1 hh.2)]
  simp only [Sem.run_bind, Result.andThen_ok, hinfo]
  rw [if_neg (by omega)]
  have hch : (choose (.appendCap (len + m) cap e)).run P w = .ok ((len + m) + w.tape w.drawn (.appendCap (len + m) cap e) % (2 ^ 63 - (len + m))) w.drew := rfl
  have hz : (zeroValue e).run P w.drew = .ok te.z w.drew := run_zero te
  simp only [Sem.run_bind, Result.andThen_ok, hch, hinfo, run_askRoom, hold, hnew, hz, run_newRow, Sem.run_pure]
  rfl
/-- What 'append' does where the slice has the room. -/
theorem run_append_room {t tx ty e : Nat} {ex : Nat} (hdd : P.underlying t = some (.slice e)) (hdx : P.underlying tx = some (.slice ex)) (te : Told P T e)
    {base : Option Addr} {len cap m : Nat} {x : Value} {news : List Value} (hcap : len + m ≤ cap) 
    (hlen : (Builtin.lenOf x).run P w = .ok m w) (hnew : (Builtin.firstCells te.i.size m x).run P w = .ok news.toArray w) {w' : World}
    (hst : ∀ a, base = some a → (storeCells (a.add (len * te.i.size)) news 0).run P w = .ok () w') (hw : base = none → w' = w) :
    (Builtin.append_ #[t, tx] ty #[.slice base len cap, x]).run P w = .ok (.slice base (len + m) cap) w' := by
  unfold Builtin.append_
  simp only [List.getElem?_toArray, List.getElem?_cons_zero, List.getElem?_cons_succ, Sem.run_bind, run_underlying hdd, run_underlying hdx, Result.andThen_ok, run_sizeOf te.hi, Sem.run_pure, Bool.false_eq_true, if_false, hlen]
  rw [if_pos hcap]
  cases base with
  | none => 
    rw [hw rfl]
    simp only [Sem.run_bind, Result.andThen_ok, Sem.run_pure, Bool.not_false, if_true, hnew]
  | some a =>
    have := hst a rfl
    simp only [Sem.run_bind, Result.andThen_ok, Sem.run_pure, Bool.not_false, if_true, hnew, this]
theorem drew_cell (w : World) (a : Addr) : w.drew.cell? a = w.cell? a := rfl
theorem app_sound (r : Rel μ h w) (hT : TOK P T) {t tx ty e ex : Nat} (hd : (tget T t).d = .sl e) (hdx : (tget T tx).d = .sl ex) (hb : (tget T e).bytes ≤ 256) (he : 0 < (tget T e).size) (hb0 : 0 < (tget T e).bytes)
    {s x : Sl} {vs vx : Value} (hs : SR μ h s vs) (hx : SR μ h x vx) {K : Sl → H → Prop} (H : app s x (tget T e).size h K) :
    ∃ y w' h' μ' s', (Builtin.append_ #[t, tx] ty #[vs, vx]).run P w = .ok y w' ∧ K s' h' ∧ Tr μ h w μ' h' w' ∧ SR μ' h' s' y := by
  obtain ⟨th⟩ := hT.told t (by rw [hd]; simp)
  have hu := tdOf_sl (P := P) (d := th.d) (by rw [← th.td, hd])
  have hdd := th.hd
  rw [hu] at hdd
  obtain ⟨thx⟩ := hT.told tx (by rw [hdx]; simp)
  have hux := tdOf_sl (P := P) (d := thx.d) (by rw [← thx.td, hdx])
  have hddx := thx.hd
  rw [hux] at hddx
  obtain ⟨te⟩ := hT.toldS e he
  obtain ⟨xs, s', h', hxs, hxz, hlim, ha, hK⟩ := H
  obtain ⟨ds, k1, k2, k3, k4, k5⟩ := sread_spec (P := P) r hx hxs hxz
  obtain ⟨ds', j1, j2, j3, j4, j5⟩ := sread_spec (P := P) r.drew hx hxs hxz
  have hlenx : ∀ w : World, (Builtin.lenOf vx).run P w = .ok x.len w := fun w => by
    unfold SR at hx
    split at hx
    · obtain ⟨hl, rfl⟩ := hx; simp [Builtin.lenOf, hl]
    · obtain ⟨_, _, a, cap, rfl, _⟩ := hx; simp [Builtin.lenOf]
  rw [te.size] at k4 j4
  have hzs : te.z.cells.size = (tget T e).size := by rw [te.zsize, te.size]
  have hxl : xs.length = x.len * (tget T e).size := by rw [← k1.len, k3]
  cases ha with
  | zero hm =>
    have hds : ds = [] := by rw [hm] at k3; simpa using k3
    subst hds
    refine ⟨vs, w, h, μ, s, ?_, hK, Tr.refl r, hs⟩
    have hs0 := hs
    unfold SR at hs0
    split at hs0
    · obtain ⟨hl, rfl⟩ := hs0
      have := run_append_room (P := P) (w := w) (ty := ty) (base := none) (len := 0) (cap := 0) (m := 0) hdd hddx te (by omega) (hm ▸ k5) (hm ▸ k4) (w' := w) (fun _ e => by cases e) (fun _ => rfl)
      simpa using this
    · obtain ⟨_, _, a, cap, rfl, hle, _⟩ := hs0
      have := run_append_room (P := P) (w := w) (ty := ty) (base := some a) (len := s.len) (cap := cap) (m := 0) hdd hddx te (by omega) (hm ▸ k5) (hm ▸ k4) (w' := w) (fun _ e => by simp [storeCells]) (fun _ => rfl)
      simpa using this
  | fresh ho hm =>
    unfold SR at hs
    rw [ho] at hs
    obtain ⟨hl, rfl⟩ := hs
    obtain ⟨nc, hnc, hrun⟩ := run_append_grow (P := P) (w := w) (ty := ty) (t := t) (tx := tx) (base := none) (len := 0) (cap := 0) (m := x.len) (olds := []) (news := ds') hdd hddx te hb hb0 (by omega) (by rw [hl] at hlim; simpa using hlim) hlenx
      (by simp [Builtin.firstCells]) j4
    simp only [Nat.zero_add] at hrun hnc
    have hcs : ((#[] : Array Value) ++ ds'.toArray ++ Builtin.zeroCells te.z.cells (nc - x.len)).size = nc * (tget T e).size := by
      simp [zeroCells_size, j3, hzs, Nat.sub_mul]
      have := Nat.mul_le_mul_right (tget T e).size hnc
      omega
    have tn := Tr.new r.drew xs ((#[] : Array Value) ++ ds'.toArray ++ Builtin.zeroCells te.z.cells (nc - x.len)) e ds' j1 j2 ⟨(Builtin.zeroCells te.z.cells (nc - x.len)).toList, by simp⟩
    refine ⟨_, _, _, _, _, hrun, hK, (Tr.drew r).trans tn, ?_⟩
    rw [hcs]
    exact newSl_SR (w := w.drew) (size := nc * (tget T e).size) hnc he (Nat.le_refl _) hxl
  | @fits o h' hm hsz ho hle hput =>
    unfold SR at hs
    rw [ho] at hs
    obtain ⟨hol, hz0, a, cap, rfl, hlc, hv⟩ := hs
    obtain ⟨q1, q2, q3, q4, q5⟩ := Tr.putN r hput k1 k2
    obtain ⟨p1, p2⟩ := hv 0 _ q1
    obtain ⟨p3, p4, p5, p6⟩ := p2 rfl
    rw [hsz] at p3 p4 p6
    have hcap : s.len + x.len ≤ cap := by
      have : (s.len + x.len) * (tget T e).size ≤ cap * (tget T e).size := by omega
      exact Nat.le_of_mul_le_mul_right this he
    have hax : a = place (μ o) s.off := by
      rcases p5 with ⟨p5, _⟩ | p5 | p5
      · have := Nat.mul_pos hm he
        rw [Nat.add_mul] at hle
        omega
      · omega
      · exact p5
    refine ⟨.slice (some a) (s.len + x.len) cap, _, _, _, _, ?_, hK, q5, ?_⟩
    · refine run_append_room (P := P) hdd hddx te hcap k5 k4 (fun a' e' => ?_) (fun e' => by cases e')
      cases e'
      rw [hax, place_add, te.size.symm]
      have := run_storeCells_cells (P := P) (μ o).b ((μ o).off + (s.off + s.len * (tget T e).size)) ds 0 w (fun j hj => by have := (q3 j hj).1; simp only [place] at this; rwa [Nat.add_zero, Nat.add_assoc])
        (fun j hj => by have := (q3 j hj).2; simp only [place] at this; rwa [Nat.add_zero, Nat.add_assoc]) q4
      exact this
    · refine SR.step q5.step ?_
      refine ⟨hol, he, a, cap, rfl, hcap, fun t m e1 => ?_⟩
      obtain ⟨g1, g2⟩ := hv t m e1
      refine ⟨g1, fun hm' => ?_⟩
      obtain ⟨g3, g4, g5, g6⟩ := g2 hm'
      rw [hsz] at g3 g4 g6
      exact ⟨g3, hle, g5, g6⟩
  | @grows o cs hm hsz ho ho0 hn hown =>
    unfold SR at hs
    rw [ho] at hs
    obtain ⟨hol, hz0, a, cap, rfl, hlc, hv⟩ := hs
    obtain ⟨q1, q2, q3⟩ := owned_inf hown
    obtain ⟨p1, p2⟩ := hv 0 _ q1
    obtain ⟨p3, p4, p5, p6⟩ := p2 rfl
    rw [hsz, ho0] at p3 p4
    have p6 := p6 rfl
    rw [hsz, ho0] at p6
    have hall : cs.all AVal.isCell = true := by
      rw [List.all_eq_true]
      intro v hv'
      obtain ⟨i, hi, rfl⟩ := List.mem_iff_getElem.1 hv'
      exact ((r.own o cs q3).2.2.2 i _ (List.getElem?_eq_getElem hi)).1
    by_cases hcap : s.len + x.len ≤ cap
    · have hroom : (μ o).off + cs.length + xs.length ≤ (μ o).size := by
        have := Nat.mul_le_mul_right (tget T e).size hcap
        rw [Nat.add_mul] at this
        omega
      have hax : a = place (μ o) s.off := by
        rcases p5 with ⟨_, p5⟩ | p5 | p5
        · cases p5
        · omega
        · exact p5
      obtain ⟨g1, g2, g3⟩ := Tr.grew r q3 k1 k2 hroom
      refine ⟨.slice (some a) (s.len + x.len) cap, _, _, _, _, ?_, hK, g3, ?_⟩
      · refine run_append_room (P := P) hdd hddx te hcap k5 k4 (fun a' e' => ?_) (fun e' => by cases e')
        cases e'
        rw [hax, place_add, te.size.symm, ho0, Nat.zero_add, hn, ← q2]
        have := run_storeCells_cells (P := P) (μ o).b ((μ o).off + cs.length) ds 0 w (fun j hj => by have := (g1 j hj).1; simp only [place] at this; rwa [Nat.add_zero, Nat.add_assoc])
          (fun j hj => by have := (g1 j hj).2; simp only [place] at this; rwa [Nat.add_zero, Nat.add_assoc]) g2
        exact this
      · refine ⟨by rw [inf_set, if_pos ⟨rfl, isSome_lt hol⟩]; rfl, he, a, cap, rfl, hcap, fun t m e1 => ?_⟩
        rw [inf_set, if_pos ⟨rfl, isSome_lt hol⟩] at e1
        simp at e1
        obtain ⟨rfl, rfl⟩ := e1
        have := Nat.mul_le_mul_right (tget T e).size hcap
        rw [Nat.add_mul] at this
        have e2 : (s.len + x.len) * (tget T e).size = s.len * (tget T e).size + x.len * (tget T e).size := Nat.add_mul _ _ _
        refine ⟨by simp only; omega, fun _ => ⟨by simp only; omega, by simp only; omega, .inr (.inr (by rw [hax, ho0])), fun _ => by simp only; omega⟩⟩
    · -- a new block
      have hrd : sread h s = some cs := by
        unfold sread
        split
        · next h0 =>
          have : cs.length = 0 := by rw [q2, ← hn, ← hsz]; exact h0
          rw [List.length_eq_zero_iff.1 this]
        · unfold Cl.range
          rw [ho]
          simp only [Option.bind_eq_some_iff]
          refine ⟨cs, ?_, ?_⟩
          · unfold Cl.cells; rw [q3]; simp [q2]
          · rw [ho0, hsz, hn, if_pos (by omega)]
            simp [← q2]
      have hs' : SR μ h s (.slice (some a) s.len cap) := by unfold SR; rw [ho]; exact ⟨hol, hz0, a, cap, rfl, hlc, hv⟩
      obtain ⟨od, i1, i2, i3, i4, i5⟩ := sread_spec (P := P) r.drew hs' hrd (fun _ => hsz)
      rw [te.size] at i4
      obtain ⟨nc, hnc, hrun⟩ := run_append_grow (P := P) (w := w) (ty := ty) (t := t) (tx := tx) (base := some a) (len := s.len) (cap := cap) (m := x.len) (olds := od) (news := ds') hdd hddx te hb hb0 (by omega) hlim hlenx i4 j4
      have hcs : (od.toArray ++ ds'.toArray ++ Builtin.zeroCells te.z.cells (nc - (s.len + x.len))).size = nc * (tget T e).size := by
        simp [zeroCells_size, j3, i3, hzs, Nat.sub_mul]
        have := Nat.mul_le_mul_right (tget T e).size hnc
        rw [Nat.add_mul] at *
        omega
      have hxp : 0 < xs.length := by rw [hxl]; exact Nat.mul_pos hm he
      have hlen2 : (cs ++ xs).length = (s.len + x.len) * (tget T e).size := by rw [List.length_append, q2, hxl, Nat.add_mul, ← hn]
      have hle2 := Nat.mul_le_mul_right (tget T e).size hnc
      have hcell : ∀ i, (w.drew.alloc (.cells (od.toArray ++ ds'.toArray ++ Builtin.zeroCells te.z.cells (nc - (s.len + x.len))) e)).cell? ⟨w.heap.size, i, none⟩ = (od.toArray ++ ds'.toArray ++ Builtin.zeroCells te.z.cells (nc - (s.len + x.len)))[i]? := fun i => World.cell?_alloc_at _ e _ i rfl
      have hfro : ∀ i, (w.drew.alloc (.cells (od.toArray ++ ds'.toArray ++ Builtin.zeroCells te.z.cells (nc - (s.len + x.len))) e)).frozen? ⟨w.heap.size, i, none⟩ = false := fun i => World.frozen?_alloc_at _ e _ i rfl
      have ev := i1.append j1
      have tt := Tr.turned (cs' := cs ++ xs) r q3 ⟨w.heap.size, 0, nc * (tget T e).size⟩ (by simp) (fun e' => by simp at e'; rw [e'] at hxp; simp at hxp)
        (w' := w.drew.alloc (.cells (od.toArray ++ ds'.toArray ++ Builtin.zeroCells te.z.cells (nc - (s.len + x.len))) e))
        rfl rfl rfl (by rw [alloc_size]; exact Nat.le_succ _) (fun k hk _ => alloc_get w.drew _ _ hk) (.inr (Nat.le_refl _)) (by rw [alloc_size]; exact Nat.lt_succ_self _)
        (by simp only [Nat.zero_add]; omega) (by rw [List.all_append, hall, k2]; rfl)
        (fun i hi => by
          simp only [place, Nat.zero_add] at hi ⊢
          rw [hcell, hfro]
          refine ⟨?_, rfl⟩
          rw [Array.getElem?_eq_getElem (by omega)]
          rfl)
        (fun i v hv' => by
          obtain ⟨d, h1, h2⟩ := ev.get hv'
          refine ⟨d, ?_, h2⟩
          simp only [place, Nat.zero_add]
          rw [hcell, Array.getElem?_append_left]
          · rw [← Array.getElem?_toList]; simpa using h1
          · have := (List.getElem?_eq_some_iff.1 h1).1
            simpa using this)
      refine ⟨_, _, _, _, _, hrun, hK, tt, ?_⟩
      have hn' : s.n + x.len * (tget T e).size = (s.len + x.len) * (tget T e).size := by rw [Nat.add_mul, hn]
      rw [hn']
      exact newSl_SR' (w := w) hnc he (Nat.le_refl _) hlen2 (isSome_lt hol)
theorem copy_sound (r : Rel μ h w) (hT : TOK P T) {t tx ty e ex : Nat} (hd : (tget T t).d = .sl e) (hdx : (tget T tx).d = .sl ex) (he : 0 < (tget T e).size)
    {s x : Sl} {vs vx : Value} (hs : SR μ h s vs) (hx : SR μ h x vx) {K : Int → H → Prop} (H : copyS s x (tget T e).size h K) :
    ∃ w' h' n, (Builtin.copy_ #[t, tx] ty #[vs, vx]).run P w = .ok (.int .i64 n) w' ∧ K n h' ∧ Tr μ h w μ h' w' := by
  obtain ⟨th⟩ := hT.told t (by rw [hd]; simp)
  have hu := tdOf_sl (P := P) (d := th.d) (by rw [← th.td, hd])
  have hdd := th.hd
  rw [hu] at hdd
  obtain ⟨te⟩ := hT.toldS e he
  obtain ⟨xs, h', hxs, hsz, hxz, hput, hK⟩ := H
  unfold SR at hs hx
  cases hso : s.o with
  | none => rw [hso] at hput; simp [putN] at hput
  | some o =>
    cases hxo : x.o with
    | none => rw [hxo] at hxs; simp [range] at hxs
    | some ox =>
      rw [hso] at hs hput
      rw [hxo] at hx hxs
      obtain ⟨hol, hz0, a, cap, rfl, hlc, hv⟩ := hs
      obtain ⟨hox, hzx, ax, capx, rfl, hlx, hvx⟩ := hx
      obtain ⟨⟨t', ht', _⟩, h1, h2, h3, ds, h4, h5, h6⟩ := r.range hxs
      obtain ⟨q1, q2, q3, q4, q5⟩ := Tr.putN r hput h5 h3
      have hsa : s.len = 0 ∨ a = place (μ o) s.off := by
        obtain ⟨p1, p2⟩ := hv 0 _ q1
        obtain ⟨p3, p4, p5, p6⟩ := p2 rfl
        rcases p5 with ⟨_, p5⟩ | p5 | p5
        · cases p5
        · exact .inl (by omega)
        · exact .inr p5
      have hxa : x.len = 0 ∨ ax = place (μ ox) x.off := by
        obtain ⟨p1, p2⟩ := hvx t' _ ht'
        obtain ⟨p3, p4, p5, p6⟩ := p2 rfl
        rcases p5 with ⟨p5, _⟩ | p5 | p5
        · have : x.len * x.sz = 0 := by omega
          rw [Nat.mul_eq_zero] at this
          exact .inl (by omega)
        · exact .inl (by omega)
        · exact .inr p5
      refine ⟨_, h', _, ?_, hK, q5⟩
      have hmin : Nat.min x.len s.len = min x.len s.len := rfl
      have hload : (loadCells ax (min x.len s.len * te.i.size)).run P w = .ok ds.toArray w := by
        rw [← te.size]
        by_cases h0 : min x.len s.len = 0
        · rw [h0, Nat.zero_mul] at h4 ⊢
          rw [List.length_eq_zero_iff.1 h4]
          exact run_loadCells_list (P := P) w ax [] (by simp)
        · have hax : ax = place (μ ox) x.off := by rcases hxa with q | q; omega; exact q
          have := run_loadCells_list (P := P) w ax ds (fun j v hj => by rw [hax, place_add]; exact h6 j v hj)
          rwa [h4] at this
      have hstore : (storeCells a ds 0).run P w = .ok () (w.setCells (μ o).b ((μ o).off + s.off) ds) := by
        by_cases h0 : min x.len s.len = 0
        · rw [h0, Nat.zero_mul] at h4
          rw [List.length_eq_zero_iff.1 h4]
          rfl
        · have hax : a = place (μ o) s.off := by rcases hsa with q | q; omega; exact q
          rw [hax]
          exact run_storeCells_cells (P := P) (μ o).b ((μ o).off + s.off) ds 0 w (fun j hj => by have := (q3 j hj).1; simp only [place] at this; rwa [Nat.add_zero, Nat.add_assoc])
            (fun j hj => by have := (q3 j hj).2; simp only [place] at this; rwa [Nat.add_zero, Nat.add_assoc]) q4
      unfold Builtin.copy_
      simp only [List.getElem?_toArray, List.getElem?_cons_zero, List.getElem?_cons_succ, Sem.run_bind, run_underlying hdd, Result.andThen_ok, run_sizeOf te.hi, Sem.run_pure, Builtin.lenOf, Builtin.firstCells, hmin, hload, hstore]
      rfl
theorem zeroCells_VRs {e : Nat} (te : Told P T e) (h0 : 0 < (tget T e).size) (n : Nat) : VRs μ h (List.replicate n (tget T e).zero).flatten (Builtin.zeroCells te.z.cells n).toList := by
  have := zeros_VRs (μ := μ) (h := h) te h0 n
  unfold Builtin.zeroCells
  rw [te.zsize, ← te.size]
  rw [te.zsize, ← te.size] at this
  exact this
theorem clear_sound (r : Rel μ h w) (hT : TOK P T) {t ty e : Nat} (hd : (tget T t).d = .sl e) (he : 0 < (tget T e).size)
    {s : Sl} {vs : Value} (hs : SR μ h s vs) {K : H → Prop} (H : clearS s (tget T e).zero h K) :
    ∃ w' h', (Builtin.clear_ #[t] ty #[vs]).run P w = .ok (.tuple #[]) w' ∧ K h' ∧ Tr μ h w μ h' w' := by
  obtain ⟨th⟩ := hT.told t (by rw [hd]; simp)
  have hu := tdOf_sl (P := P) (d := th.d) (by rw [← th.td, hd])
  have hdd := th.hd
  rw [hu] at hdd
  obtain ⟨te⟩ := hT.toldS e he
  unfold clearS at H
  unfold SR at hs
  cases hso : s.o with
  | none =>
    rw [hso] at hs
    obtain ⟨hl, rfl⟩ := hs
    rw [if_pos hl] at H
    refine ⟨w, h, ?_, H, Tr.refl r⟩
    simp [Builtin.clear_, run_underlying hdd]
  | some o =>
    rw [hso] at hs
    obtain ⟨hol, hz0, a, cap, rfl, hlc, hv⟩ := hs
    split at H
    · next hl =>
      refine ⟨w, h, ?_, H, Tr.refl r⟩
      rw [hl]
      simp [Builtin.clear_, run_underlying hdd]
    · next hl =>
      obtain ⟨h', hsz, hput, hK⟩ := H
      rw [hso] at hput
      obtain ⟨q1, q2, q3, q4, q5⟩ := Tr.putN r hput (zeroCells_VRs te he s.len) (all_rep (all_zero te) _)
      have hsa : a = place (μ o) s.off := by
        obtain ⟨p1, p2⟩ := hv 0 _ q1
        obtain ⟨p3, p4, p5, p6⟩ := p2 rfl
        rcases p5 with ⟨_, p5⟩ | p5 | p5
        · cases p5
        · omega
        · exact p5
      refine ⟨_, h', ?_, hK, q5⟩
      have hstore := run_storeCells_cells (P := P) (μ o).b ((μ o).off + s.off) (Builtin.zeroCells te.z.cells s.len).toList 0 w (fun j hj => by have := (q3 j hj).1; simp only [place] at this; rwa [Nat.add_zero, Nat.add_assoc])
            (fun j hj => by have := (q3 j hj).2; simp only [place] at this; rwa [Nat.add_zero, Nat.add_assoc]) q4
      have hz : (zeroValue e).run P w = .ok te.z w := run_zero te
      obtain ⟨n, hn⟩ : ∃ n, s.len = n + 1 := ⟨s.len - 1, by omega⟩
      rw [hsa]
      rw [hn] at hstore ⊢
      simp only [Builtin.clear_, List.getElem?_toArray, List.getElem?_cons_zero, List.getElem?_cons_succ, Sem.run_bind, run_underlying hdd, Result.andThen_ok, Sem.run_pure, hz]
      simp only [place] at *
      rw [hstore]
      rfl
end
end Go.Proofs.Ytdmhchgaeepdmaa.Cl
